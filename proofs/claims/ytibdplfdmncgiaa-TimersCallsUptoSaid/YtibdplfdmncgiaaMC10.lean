/-
  Plain lemmas of this place's own: a world that extends another one; a region that draws its order and whose operations only extend the world. No condition.
-/
import Derived.Test.YtibdplfdmncgiaaMC9
import Derived.Test.YtibdplfdmncgiaaProg
import Derived.WalkKit
import Derived.WalkSpells
import Derived.WalkLawsBesides
import Derived.Deep.QuietTactic
import Derived.BigQuiet
import Derived.Lib.Hide
set_option linter.all false
namespace Go.Proofs.Ytibdplfdmncgiaa
open Go.RowKit

/-- The world w' holds all the blocks of w as they were, and perhaps more. -/
def Ext (w w' : World) : Prop := Below w.heap.size w w'

theorem Ext.refl (w : World) : Ext w w := Below.refl _ _
theorem Ext.trans {a b c : World} (h : Ext a b) (k : Ext b c) : Ext a c := Below.trans h (Below.mono k h.size)
/-- .. then whatever leaves the blocks below as they are. -/
theorem Ext.trans' {a b c : World} (h : Ext a b) (k : Below a.heap.size b c) : Ext a c := Below.trans h k
theorem Ext.drew {a w : World} (h : Ext a w) : Ext a w.drew := Below.drew h
theorem Ext.drewN {a w : World} (h : Ext a w) (n : Nat) : Ext a (w.drewN n) := ⟨h.os, h.tape, h.output, h.size, h.block⟩
theorem Ext.alloc {a w : World} (h : Ext a w) (o : Obj) : Ext a (w.alloc o) := Below.alloc h h.size o
theorem Ext.setCell {a w : World} (h : Ext a w) {p : Addr} (hp : a.heap.size ≤ p.block) (u : Value) : Ext a (w.setCell p u) := Below.setCell h hp u
theorem Ext.size {a w : World} (h : Ext a w) : a.heap.size ≤ w.heap.size := Below.size h

/-- A world that extends w. -/
structure ExtOf (w : World) where
  val : World
  ext : Ext w val

instance (w : World) : Nonempty (ExtOf w) := ⟨⟨w, Ext.refl w⟩⟩

theorem ext_of {w w' : World} (h : Ext w w') : ∃ x : ExtOf w, w' = x.val := ⟨⟨w', h⟩, rfl⟩
theorem Ext.val {a w : World} (h : Ext a w) (x : ExtOf w) : Ext a x.val := h.trans x.ext

theorem ExtOf.cell {w : World} (x : ExtOf w) {a : Addr} (h : a.block < w.heap.size) : x.val.cell? a = w.cell? a := Below.cell x.ext h
theorem ExtOf.frozen {w : World} (x : ExtOf w) {a : Addr} (h : a.block < w.heap.size) : x.val.frozen? a = w.frozen? a := Below.frozen x.ext h
theorem ExtOf.lt {w : World} (x : ExtOf w) {n : Nat} (h : n < w.heap.size) : (n < x.val.heap.size) = True := by
  have := x.ext.size
  exact eq_true (by omega)
theorem ExtOf.le {w : World} (x : ExtOf w) {n : Nat} (h : n ≤ w.heap.size) : (n ≤ x.val.heap.size) = True := by
  have := x.ext.size
  exact eq_true (by omega)

theorem ExtOf.cell2 {w : World} {x : ExtOf w} (y : ExtOf x.val) {a : Addr} (h : a.block < w.heap.size) : y.val.cell? a = w.cell? a := Below.cell (x.ext.trans y.ext) h
theorem ExtOf.frozen2 {w : World} {x : ExtOf w} (y : ExtOf x.val) {a : Addr} (h : a.block < w.heap.size) : y.val.frozen? a = w.frozen? a := Below.frozen (x.ext.trans y.ext) h
theorem ExtOf.lt2 {w : World} {x : ExtOf w} (y : ExtOf x.val) {n : Nat} (h : n < w.heap.size) : (n < y.val.heap.size) = True := by
  have := (x.ext.trans y.ext).size
  exact eq_true (by omega)

theorem ExtOf.cell3 {w : World} {x : ExtOf w} {y : ExtOf x.val} (z : ExtOf y.val) {a : Addr} (h : a.block < w.heap.size) : z.val.cell? a = w.cell? a := Below.cell ((x.ext.trans y.ext).trans z.ext) h
theorem ExtOf.frozen3 {w : World} {x : ExtOf w} {y : ExtOf x.val} (z : ExtOf y.val) {a : Addr} (h : a.block < w.heap.size) : z.val.frozen? a = w.frozen? a := Below.frozen ((x.ext.trans y.ext).trans z.ext) h
theorem ExtOf.lt3 {w : World} {x : ExtOf w} {y : ExtOf x.val} (z : ExtOf y.val) {n : Nat} (h : n < w.heap.size) : (n < z.val.heap.size) = True := by
  have := ((x.ext.trans y.ext).trans z.ext).size
  exact eq_true (by omega)

/-- A world that has, below block B, the blocks of w as they were. -/
structure BelOf (B : Nat) (w : World) where
  val : World
  bel : Below B w val

instance (B : Nat) (w : World) : Nonempty (BelOf B w) := ⟨⟨w, Below.refl B w⟩⟩

theorem bel_of {B : Nat} {w w' : World} (h : Below B w w') : ∃ x : BelOf B w, w' = x.val := ⟨⟨w', h⟩, rfl⟩
theorem bel_ext {B : Nat} {a w w' : World} (h : Below B a w) (e : Ext w w') (hB : B ≤ a.heap.size) : Below B a w' := Below.trans h (Below.mono e (Nat.le_trans hB h.size))

theorem BelOf.cell {B : Nat} {w : World} (x : BelOf B w) {a : Addr} (h : a.block < B) : x.val.cell? a = w.cell? a := Below.cell x.bel h
theorem BelOf.frozen {B : Nat} {w : World} (x : BelOf B w) {a : Addr} (h : a.block < B) : x.val.frozen? a = w.frozen? a := Below.frozen x.bel h
theorem BelOf.lt {B : Nat} {w : World} (x : BelOf B w) {n : Nat} (h : n < w.heap.size) : (n < x.val.heap.size) = True := by
  have := x.bel.size
  exact eq_true (by omega)

theorem ExtOf.cellB {B : Nat} {w : World} {x : BelOf B w} (y : ExtOf x.val) {a : Addr} (h : a.block < B) (hB : B ≤ w.heap.size) : y.val.cell? a = w.cell? a :=
  Below.cell (bel_ext x.bel y.ext hB) h
theorem ExtOf.frozenB {B : Nat} {w : World} {x : BelOf B w} (y : ExtOf x.val) {a : Addr} (h : a.block < B) (hB : B ≤ w.heap.size) : y.val.frozen? a = w.frozen? a :=
  Below.frozen (bel_ext x.bel y.ext hB) h

/-- A world that has the blocks of w as they were, but for block X. -/
structure ButOf (X : Nat) (w : World) where
  val : World
  but : w.grownBy val (some X)

theorem but_refl (X : Nat) (w : World) : w.grownBy w (some X) := ⟨rfl, rfl, rfl, Nat.le_refl _, fun _ _ _ => rfl⟩
theorem but_ext {X : Nat} {a w w' : World} (h : a.grownBy w (some X)) (e : Ext w w') : a.grownBy w' (some X) :=
  ⟨e.os.trans h.os, e.tape.trans h.tape, e.output.trans h.output, Nat.le_trans h.size e.size, fun k hk hn => (e.block k (Nat.lt_of_lt_of_le hk h.size)).trans (h.block k hk hn)⟩
theorem but_setRow {X : Nat} {a w : World} (h : a.grownBy w (some X)) (cs : Array Value) : a.grownBy (w.setRow X cs) (some X) :=
  ⟨h.os, h.tape, h.output, by simpa using h.size, fun k hk hn => (setRow_other w X k cs (fun e => hn (by rw [e]))).trans (h.block k hk hn)⟩
instance (X : Nat) (w : World) : Nonempty (ButOf X w) := ⟨⟨w, but_refl X w⟩⟩

theorem ButOf.cell0 {X : Nat} {w : World} (x : ButOf X w) {a : Addr} (h : a.block < w.heap.size) (hn : a.block ≠ X) : x.val.cell? a = w.cell? a :=
  World.cell?_of_block (x.but.block a.block h (by simpa using hn))
theorem ButOf.frozen0 {X : Nat} {w : World} (x : ButOf X w) {a : Addr} (h : a.block < w.heap.size) (hn : a.block ≠ X) : x.val.frozen? a = w.frozen? a :=
  World.frozen?_of_block (x.but.block a.block h (by simpa using hn))
theorem ExtOf.cellX {X : Nat} {w : World} {x : ButOf X w} (y : ExtOf x.val) {a : Addr} (h : a.block < w.heap.size) (hn : a.block < X) : y.val.cell? a = w.cell? a :=
  ButOf.cell0 ⟨y.val, but_ext x.but y.ext⟩ h (Nat.ne_of_lt hn)
theorem ExtOf.frozenX {X : Nat} {w : World} {x : ButOf X w} (y : ExtOf x.val) {a : Addr} (h : a.block < w.heap.size) (hn : a.block < X) : y.val.frozen? a = w.frozen? a :=
  ButOf.frozen0 ⟨y.val, but_ext x.but y.ext⟩ h (Nat.ne_of_lt hn)
theorem ExtOf.cellX' {X : Nat} {w : World} {x : ButOf X w} (y : ExtOf x.val) {a : Addr} (h : a.block < w.heap.size) (hn : X < a.block) : y.val.cell? a = w.cell? a :=
  ButOf.cell0 ⟨y.val, but_ext x.but y.ext⟩ h (Nat.ne_of_gt hn)
theorem ExtOf.frozenX' {X : Nat} {w : World} {x : ButOf X w} (y : ExtOf x.val) {a : Addr} (h : a.block < w.heap.size) (hn : X < a.block) : y.val.frozen? a = w.frozen? a :=
  ButOf.frozen0 ⟨y.val, but_ext x.but y.ext⟩ h (Nat.ne_of_gt hn)
theorem Ext.setRow {a w : World} (h : Ext a w) {g : Nat} (hg : a.heap.size ≤ g) (cs : Array Value) : Ext a (w.setRow g cs) :=
  ⟨h.os, h.tape, h.output, by simpa using h.size, fun k hk => (setRow_other w g k cs (by omega)).trans (h.block k hk)⟩

theorem heap_ext {w w' : World} {G : Nat} {o : Obj} (h : w.heap[G]? = some o) (e : Ext w w') : w'.heap[G]? = some o := by
  rw [Below.block e G (Array.getElem?_eq_some_iff.1 h).1]; exact h

section
variable {P : Program}
/-- A region that draws its order; each operation gives one value in every world that extends w, and leaves such a world. -/
theorem wp_region_ext {id : Nat} {Q : Exit → Act → World → Prop} {a : Act} {w : World} {l : List Oper} (hm : P.follows .mixedOrders = true) (hB : Region.lexB .any l.toArray = true)
    (h : wpQuiet P l.toArray (fun w' => ∃ x : ExtOf w, w' = x.val) (fun a' => ∀ w', (∃ x : ExtOf w, w' = x.val) → Q .normal a' w') l a) : (Code.region id l.toArray true).wp P Q a w :=
  wp_region_quiet (C := fun w' => ∃ x : ExtOf w, w' = x.val) hm hB ⟨⟨_, (Ext.refl w).drew⟩, rfl⟩ (by simpa using h)

/-- A contract met in such a region. -/
theorem calls_ext {f : FuncId} {args : Array Value} {w : World} {x : ExtOf w} {v : Value}
    (h : Calls P f args x.val fun e w' => e = .returned v ∧ Ext x.val w') : Calls P f args x.val fun e w'' => e = .returned v ∧ ∃ y : ExtOf w, w'' = y.val :=
  h.mono fun _ w' ⟨he, hw⟩ => ⟨he, ⟨w', x.ext.trans hw⟩, rfl⟩
end
end Go.Proofs.Ytibdplfdmncgiaa

/-
  A region that draws its order, walked once: the operations that give one value in every world that extends the region's first one are taken ahead, in the order of the text; the others (a call that makes a slice, a store) are walked behind them, each in whatever world extends what was. No condition.
-/
namespace Go.Proofs.Ytibdplfdmncgiaa
open Go.RowKit
section
variable {P : Program} {md : Region.Mode} {ops : Array Oper}

/-- The same, but for a panic, which is not to come. -/
def Quiets (Q : Exit → Act → World → Prop) : Exit → Act → World → Prop
  | .panic _, _, _ => False
  | e, a, w => Q e a w
theorem quiets_imp {Q : Exit → Act → World → Prop} : ∀ (e : Exit) (a : Act) (w : World), Quiets Q e a w → Q e a w := fun e a w h => by
  cases e <;> first | exact h | exact h.elim

/-- Whatever order is picked, and whatever else extends the world between two operations. -/
def wpAnyE (P : Program) (md : Region.Mode) (ops : Array Oper) (C : World → Prop) (Q : Exit → Act → World → Prop) : Nat → Array Bool → Act → World → Prop
  | 0, listed, a, w => Region.ready md ops listed = [] ∧ ∀ w', Ext w w' → Q .normal a w'
  | n + 1, listed, a, w => ∀ w', Ext w w' → ((Region.ready md ops listed = [] → Q .normal a w') ∧
      ∀ i ∈ Region.ready md ops listed, wpOp P ops (Quiets Q) i (fun a' w'' => C w'' ∧ wpAnyE P md ops C Q n (listed.setIfInBounds i true) a' w'') a w')

theorem wpAnyE_up {C : World → Prop} {Q : Exit → Act → World → Prop} : ∀ (n : Nat) {l : Array Bool} {a : Act} {w w' : World}, wpAnyE P md ops C Q n l a w → Ext w w' → wpAnyE P md ops C Q n l a w'
  | 0, _, _, _, _, h, e => ⟨h.1, fun _ k => h.2 _ (e.trans k)⟩
  | _ + 1, _, _, _, _, h, e => fun _ k => h _ (e.trans k)

theorem wpAny_of_E {C : World → Prop} {Q : Exit → Act → World → Prop} : ∀ (n : Nat) (l : Array Bool) (a : Act) (w : World), wpAnyE P md ops C Q n l a w → wpAny P md ops (Quiets Q) n l a w
  | 0, _, _, _, h => ⟨h.1, h.2 _ (Ext.refl _)⟩
  | n + 1, _, _, _, h => ⟨fun h0 => (h _ (Ext.refl _)).1 h0, fun i hi => wpOp_mono (fun a' w' h' => wpAny_of_E n _ a' w' h'.2) ((h _ (Ext.refl _)).2 i hi)⟩

/-- In every world of the class the operation gives v, and leaves what extends that world. -/
def YieldsE (P : Program) (ops : Array Oper) (C : World → Prop) (o : Oper) (v : Value) (a : Act) : Prop :=
  (Region.wanted o (yielded ops a.tmps) = true ∧ ∀ w, C w → o.quietAt P a (Ext w) w v) ∨
  (Region.wanted o (yielded ops a.tmps) = false ∧ v = undef)

theorem YieldsE.wpOp {C : World → Prop} {Q : Exit → Act → World → Prop} {i : Nat} {o : Oper} {v : Value} {a : Act} (hi : ops[i]? = some o) (hy : YieldsE P ops C o v a)
    {K : Act → World → Prop} {w : World} (hC : C w) (h : ∀ w', Ext w w' → K (a.put o.dst v) w') : Go.wpOp P ops Q i K a w := by
  unfold Go.wpOp
  simp only [hi]
  rcases hy with ⟨hw, hv⟩ | ⟨hw, rfl⟩
  · rw [if_pos hw]
    refine .inl ?_
    have h1 := hv w hC
    unfold Oper.quietAt at h1
    unfold Oper.wp
    generalize (execOp a.eval o).run P w = r at *
    cases r with
    | ok n w' =>
      cases n <;> simp only [Oper.quietUpon] at h1 <;> simp only [Oper.upon]
      case value u => obtain ⟨e1, e2⟩ := h1; rw [e1, e2]; exact h _ (Ext.refl _)
      case skip => obtain ⟨e1, e2⟩ := h1; rw [e1, ← e2]; exact h _ (Ext.refl _)
      case enter f args =>
        obtain ⟨e1, hc⟩ := h1
        rw [e1]
        exact hc.mono fun e w'' ⟨he, hw''⟩ => by subst he; exact h _ hw''
    | halt x w' => simp only [Oper.quietUpon] at h1
  · rw [if_neg (by rw [hw]; exact Bool.false_ne_true)]
    exact h _ (Ext.refl _)

theorem YieldsE.of_same {C : World → Prop} {o : Oper} {v : Value} {a a' : Act} (hy : YieldsE P ops C o v a) (he : execOp a'.eval o = execOp a.eval o)
    (hw : Region.wanted o (yielded ops a'.tmps) = Region.wanted o (yielded ops a.tmps)) : YieldsE P ops C o v a' := by
  unfold YieldsE Oper.quietAt at *
  rw [he, hw]
  exact hy

/-- An operation that is apart from the one that was taken ahead. -/
theorem wpOp_behind {C : World → Prop} {Q : Exit → Act → World → Prop} {j : Nat} {oi oj : Oper} {v : Value} (hj : ops[j]? = some oj) (hap : oi.apart ops oj = true)
    (hsi : ∀ cs b, oi.op ≠ .select cs b) (hsj : ∀ cs b, oj.op ≠ .select cs b) {K : Act → World → Prop} {a : Act} {w : World}
    (hy : YieldsE P ops C oi v a) (h : wpOp P ops (Quiets Q) j K (a.put oi.dst v) w) :
    wpOp P ops (Quiets Q) j (fun a' w' => YieldsE P ops C oi v a' ∧ K (a'.put oi.dst v) w') a w := by
  obtain ⟨h1, h2, h3⟩ := Oper.apart_spec hap
  have keep : ∀ (a : Act), YieldsE P ops C oi v a → ∀ u, YieldsE P ops C oi v (a.put oj.dst u) := fun a hy u =>
    hy.of_same (execOp_put oi hsi a oj.dst u h3) (wanted_put oi a oj.dst u h3)
  have comm : ∀ (a : Act) u, (a.put oj.dst u).put oi.dst v = (a.put oi.dst v).put oj.dst u := fun a u => (Act.put_comm a v u h2).symm
  unfold wpOp at *
  simp only [hj] at *
  rw [wanted_put oj a oi.dst v h1] at h
  by_cases hw : Region.wanted oj (yielded ops a.tmps) = true
  · rw [if_pos hw] at h ⊢
    have he := execOp_put oj hsj a oi.dst v h1
    rcases h with h | h
    · refine .inl ?_
      unfold Oper.wp at *
      rw [he] at h
      generalize (execOp a.eval oj).run P w = r at *
      cases r with
      | ok n w' =>
        cases n <;> simp only [Oper.upon] at h ⊢
        case value u => exact ⟨keep a hy u, by rw [comm]; exact h⟩
        case skip => exact ⟨keep a hy _, by rw [comm]; exact h⟩
        case defer d =>
          refine ⟨keep { a with defers := d :: a.defers } (hy.of_same rfl rfl) _, ?_⟩
          rw [comm, ← Act.put_defers]
          exact h
        case enter f args =>
          refine Calls.mono h fun e w'' he => ?_
          cases e with
          | returned u => exact ⟨keep a hy u, by rw [comm]; exact he⟩
          | panicked c => exact (he : False).elim
          | outgrown => exact he
        case row row args => exact Rows.mono h fun u w'' he => ⟨keep a hy u, by rw [comm]; exact he⟩
      | halt x w' =>
        cases x <;> simp only [Oper.upon] at h ⊢
        case panic u => exact (h : False).elim
    · refine .inr ⟨?_, h.2⟩
      have h4 := h.1
      unfold Oper.asks at *
      rwa [he] at h4
  · rw [if_neg hw] at h ⊢
    exact ⟨keep a hy _, by rw [comm]; exact h⟩

/-- An operation that may come up is taken ahead. -/
theorem wpAnyE_first {C : World → Prop} (hCE : ∀ w w', C w → Ext w w' → C w') {Q : Exit → Act → World → Prop} {i : Nat} {oi : Oper} {v : Value} (hi : ops[i]? = some oi)
    (hsel : ∀ (j : Nat) (o : Oper) cs b, ops[j]? = some o → o.op ≠ .select cs b) :
    ∀ (n : Nat) (l : Array Bool) (a : Act) (w : World),
      (∀ j oj, ops[j]? = some oj → j ≠ i → l.getD j true = false → (∀ e ∈ oj.after, Region.binds md e = true → e.on ≠ i) → oi.apart ops oj = true) →
      i ∈ Region.ready md ops l → YieldsE P ops C oi v a → C w →
      wpAnyE P md ops C Q n (l.setIfInBounds i true) (a.put oi.dst v) w → wpAnyE P md ops C Q (n + 1) l a w := by
  intro n
  induction n with
  | zero =>
    intro l a w _ hr hy hC H w' hw'
    refine ⟨fun h => (by rw [h] at hr; cases hr), fun j hj => ?_⟩
    by_cases hji : j = i
    · subst hji
      exact hy.wpOp hi (hCE _ _ hC hw') fun w'' hw'' => ⟨hCE _ _ (hCE _ _ hC hw') hw'', wpAnyE_up 0 H (hw'.trans hw'')⟩
    · have := ready_mono hj hji
      rw [H.1] at this
      cases this
  | succ n ih =>
    intro l a w hfree hr hy hC H w' hw'
    refine ⟨fun h => (by rw [h] at hr; cases hr), fun j hj => ?_⟩
    by_cases hji : j = i
    · subst hji
      exact hy.wpOp hi (hCE _ _ hC hw') fun w'' hw'' => ⟨hCE _ _ (hCE _ _ hC hw') hw'', wpAnyE_up (n + 1) H (hw'.trans hw'')⟩
    · have h1 := (H w' hw').2 j (ready_mono hj hji)
      obtain ⟨hjun, oj, hoj, hall⟩ := mem_ready.1 hj
      have hnot : ∀ e ∈ oj.after, Region.binds md e = true → e.on ≠ i := fun e he hb heq => by
        have h2 := hall e he hb
        have h0 := (mem_ready.1 hr).1
        rw [heq] at h2
        rcases Nat.lt_or_ge i l.size with h' | h'
        · simp [h'] at h0 h2; rw [h0] at h2; cases h2
        · simp [Array.getElem?_eq_none h'] at h2
      have h2 := wpOp_behind hoj (hfree j oj hoj hji hjun hnot) (fun cs b => hsel i oi cs b hi) (fun cs b => hsel j oj cs b hoj) hy h1
      have hfree' : ∀ k ok, ops[k]? = some ok → k ≠ i → (l.setIfInBounds j true).getD k true = false →
          (∀ e ∈ ok.after, Region.binds md e = true → e.on ≠ i) → oi.apart ops ok = true := fun k ok hk hki hun hno => by
        refine hfree k ok hk hki ?_ hno
        by_cases hjk : j = k
        · subst hjk; exact hjun
        · rw [getD_set_ne true hjk] at hun; exact hun
      refine wpOp_mono (fun a' w'' h3 => ⟨h3.2.1, ih (l.setIfInBounds j true) a' w'' hfree' (ready_mono hr (Ne.symm hji)) h3.1 h3.2.1 ?_⟩) h2
      rw [Array.setIfInBounds_comm _ _ hji]
      exact h3.2.2

/-- Those of a list that are taken ahead (where the mask says true). -/
def pickT : List Bool → List Oper → List Oper
  | b :: m, o :: l => if b then o :: pickT m l else pickT m l
  | _, _ => []

/-- What is listed when those are taken, if each may come up and is free. -/
def Region.lexMask (md : Region.Mode) (ops : Array Oper) : List Bool → Nat → Array Bool → Option (Array Bool)
  | [], _, l => some l
  | b :: m, k, l =>
    if b then
      if (Region.ready md ops l).contains k && Region.free md ops l k then Region.lexMask md ops m (k + 1) (l.setIfInBounds k true) else none
    else Region.lexMask md ops m (k + 1) l

/-- The walk of those that are taken, in the order of the text: it ends in the frame af. -/
def walkE (P : Program) (ops : Array Oper) (C : World → Prop) (af : Act) : List Oper → Act → Prop
  | [], a => a = af
  | o :: l, a => ∃ v, YieldsE P ops C o v a ∧ walkE P ops C af l (a.put o.dst v)

theorem wpAnyE_lex {C : World → Prop} (hCE : ∀ w w', C w → Ext w w' → C w') {Q : Exit → Act → World → Prop} (hs : Region.noSelect ops = true) {af : Act} {le : Array Bool} {g : Nat} :
    ∀ (m : List Bool) (l : List Oper) (k : Nat) (listed : Array Bool) (a : Act) (w : World), m.length = l.length → (∀ j, j < l.length → l[j]? = ops[k + j]?) → Region.lexMask md ops m k listed = some le →
    walkE P ops C af (pickT m l) a → C w → wpAnyE P md ops C Q g le af w → wpAnyE P md ops C Q ((pickT m l).length + g) listed a w
  | [], [], _, _, _, _, _, _, hm, hw, _, h => by
    simp only [Region.lexMask, Option.some.injEq] at hm
    simp only [pickT, walkE] at hw
    subst hm; subst hw
    simpa [pickT] using h
  | [], _ :: _, _, _, _, _, hl, _, _, _, _, _ => by simp at hl
  | _ :: _, [], _, _, _, _, hl, _, _, _, _, _ => by simp at hl
  | b :: m, o :: l, k, listed, a, w, hl, ho, hm, hw, hC, h => by
    have h0 : ops[k]? = some o := by simpa using (ho 0 (by simp)).symm
    have hl' : m.length = l.length := by simpa using hl
    have ho' : ∀ j, j < l.length → l[j]? = ops[k + 1 + j]? := fun j hj => by
      have := ho (j + 1) (by simp; omega)
      simpa [Nat.add_assoc, Nat.add_comm 1 j] using this
    cases b
    · simp only [Region.lexMask, pickT, Bool.false_eq_true, if_false] at hm hw ⊢
      exact wpAnyE_lex hCE hs m l (k + 1) listed a w hl' ho' hm hw hC h
    · simp only [Region.lexMask, pickT, if_true] at hm hw ⊢
      split at hm
      case isFalse => cases hm
      case isTrue hc =>
        simp only [Bool.and_eq_true] at hc
        obtain ⟨v, hy, hw'⟩ := hw
        have ih := wpAnyE_lex hCE hs m l (k + 1) _ _ w hl' ho' hm hw' hC h
        rw [List.length_cons, show (pickT m l).length + 1 + g = ((pickT m l).length + g) + 1 by omega]
        exact wpAnyE_first hCE h0 (Region.noSelect_spec hs) _ listed a w (Region.free_spec h0 hc.2) (by simpa using hc.1) hy hC ih

/-- Each writes a slot of its own, within the frame. -/
def dstsOk (n : Nat) : List Oper → Bool
  | [] => true
  | o :: l => (match o.dst with | some d => decide (d < n) && l.all (fun p => p.dst != some d) | none => false) && dstsOk n l

theorem put_size (a : Act) (d : Option Tmp) (v : Value) : (a.put d v).tmps.size = a.tmps.size := by
  cases d <;> simp [Act.put]

theorem final_slot {C : World → Prop} {af : Act} {d : Tmp} : ∀ (l : List Oper) (a : Act), l.all (fun p => p.dst != some d) = true → wpQuiet P ops C (fun a' => a' = af) l a → af.tmps[d]? = a.tmps[d]?
  | [], a, _, h => by simp only [wpQuiet] at h; rw [h]
  | o :: l, a, hd, h => by
    simp only [List.all_cons, Bool.and_eq_true] at hd
    have hne : o.dst ≠ some d := by simpa using hd.1
    have hput : ∀ v, (a.put o.dst v).tmps[d]? = a.tmps[d]? := fun v => by
      cases hx : o.dst with
      | none => rfl
      | some e =>
        have : e ≠ d := fun he => hne (by rw [hx, he])
        simp [Act.put, Array.getElem?_setIfInBounds_ne this]
    simp only [wpQuiet] at h
    split at h
    · obtain ⟨v, _, hv⟩ := h
      rw [final_slot l _ hd.2 hv, hput]
    · rw [final_slot l _ hd.2 h, hput]

theorem quietAt_ext {o : Oper} {a : Act} {w : World} {v : Value} (h : o.quietAt P a (fun w' => ∃ x : ExtOf w, w' = x.val) w v) : o.quietAt P a (Ext w) w v := by
  unfold Oper.quietAt at *
  generalize (execOp a.eval o).run P w = r at *
  cases r with
  | ok n w' =>
    cases n <;> simp only [Oper.quietUpon] at h ⊢
    case value u => exact h
    case skip => exact h
    case enter f args => exact ⟨h.1, h.2.mono fun e w'' ⟨he, x, hx⟩ => ⟨he, by rw [hx]; exact x.ext⟩⟩
  | halt x w' => simp only [Oper.quietUpon] at h

theorem walkE_of_quiet {C : World → Prop} {af : Act} (hne : ∃ w, C w) : ∀ (l : List Oper) (a : Act), dstsOk a.tmps.size l = true →
    (∀ w, C w → wpQuiet P ops (fun w' => ∃ x : ExtOf w, w' = x.val) (fun a' => a' = af) l a) → walkE P ops C af l a
  | [], a, _, h => by
    obtain ⟨w, hw⟩ := hne
    simpa only [walkE, wpQuiet] using h w hw
  | o :: l, a, hd, h => by
    simp only [dstsOk, Bool.and_eq_true] at hd
    obtain ⟨hd1, hd2⟩ := hd
    cases hx : o.dst with
    | none => rw [hx] at hd1; cases hd1
    | some d =>
      rw [hx] at hd1
      simp only [Bool.and_eq_true, decide_eq_true_eq] at hd1
      by_cases hw : Region.wanted o (yielded ops a.tmps) = true
      · obtain ⟨w₀, hw₀⟩ := hne
        have h0 := h w₀ hw₀
        simp only [wpQuiet, hw, if_true] at h0
        obtain ⟨v, _, hv⟩ := h0
        have e0 := final_slot l _ hd1.2 hv
        have key : ∀ w, C w → o.quietAt P a (Ext w) w v ∧ wpQuiet P ops (fun w' => ∃ x : ExtOf w, w' = x.val) (fun a' => a' = af) l (a.put o.dst v) := fun w hC => by
          have h1 := h w hC
          simp only [wpQuiet, hw, if_true] at h1
          obtain ⟨u, hu, hn⟩ := h1
          have e1 := final_slot l _ hd1.2 hn
          rw [e0, hx] at e1
          simp only [Act.put, Array.getElem?_setIfInBounds_self_of_lt hd1.1, Option.some.injEq] at e1
          subst e1
          exact ⟨quietAt_ext (hu w ⟨⟨w, Ext.refl w⟩, rfl⟩), hn⟩
        exact ⟨v, .inl ⟨hw, fun w hC => (key w hC).1⟩, walkE_of_quiet ⟨w₀, hw₀⟩ l _ (by rw [put_size]; exact hd2) fun w hC => (key w hC).2⟩
      · have hw' : Region.wanted o (yielded ops a.tmps) = false := by simpa using hw
        refine ⟨undef, .inr ⟨hw', rfl⟩, walkE_of_quiet hne l _ (by rw [put_size]; exact hd2) fun w hC => ?_⟩
        have h1 := h w hC
        simpa only [wpQuiet, hw', Bool.false_eq_true, if_false] using h1

/-- The rest, if it comes up in one order alone: from number k on those of the list where the mask says false. -/
def seqMask (md : Region.Mode) (ops : Array Oper) : List Bool → Nat → Array Bool → Bool
  | [], _, l => (Region.ready md ops l).isEmpty
  | b :: m, k, l => if b then seqMask md ops m (k + 1) l else decide (Region.ready md ops l = [k]) && seqMask md ops m (k + 1) (l.setIfInBounds k true)

def pickF : List Bool → List Oper → List Oper
  | b :: m, o :: l => if b then pickF m l else o :: pickF m l
  | _, _ => []

/-- The rest, one behind the other, each in whatever extends what was. -/
def wpChain (P : Program) (ops : Array Oper) (C : World → Prop) (Q : Exit → Act → World → Prop) : List Oper → Act → World → Prop
  | [], a, w => ∀ x : ExtOf w, Q .normal a x.val
  | o :: l, a, w => ∀ x : ExtOf w, wpList P ops (Exit.then (fun a' w'' => C w'' ∧ wpChain P ops C Q l a' w'') (Quiets Q)) [o] a x.val

theorem wpAnyE_of_chain {C : World → Prop} {Q : Exit → Act → World → Prop} : ∀ (m : List Bool) (l : List Oper) (k : Nat) (listed : Array Bool) (a : Act) (w : World), m.length = l.length →
    (∀ j, j < l.length → l[j]? = ops[k + j]?) → seqMask md ops m k listed = true → wpChain P ops C Q (pickF m l) a w → wpAnyE P md ops C Q (pickF m l).length listed a w
  | [], [], _, _, _, _, _, _, hm, h => ⟨by simpa [seqMask] using hm, fun w' hw' => h ⟨w', hw'⟩⟩
  | [], _ :: _, _, _, _, _, hl, _, _, _ => by simp at hl
  | _ :: _, [], _, _, _, _, hl, _, _, _ => by simp at hl
  | b :: m, o :: l, k, listed, a, w, hl, ho, hm, h => by
    have h0 : ops[k]? = some o := by simpa using (ho 0 (by simp)).symm
    have hl' : m.length = l.length := by simpa using hl
    have ho' : ∀ j, j < l.length → l[j]? = ops[k + 1 + j]? := fun j hj => by
      have := ho (j + 1) (by simp; omega)
      simpa [Nat.add_assoc, Nat.add_comm 1 j] using this
    cases b
    · simp only [seqMask, pickF, Bool.false_eq_true, if_false, Bool.and_eq_true, decide_eq_true_eq] at hm h ⊢
      intro w' hw'
      refine ⟨fun h1 => (by rw [hm.1] at h1; cases h1), fun i hi => ?_⟩
      rw [hm.1] at hi
      have hik : i = k := by simpa using hi
      subst hik
      have hw := h ⟨w', hw'⟩
      simp only [wpList] at hw
      have hop : wpOp P ops (Quiets Q) i (fun a' w'' => C w'' ∧ wpChain P ops C Q (pickF m l) a' w'') a w' := by
        unfold wpOp
        simp only [h0]
        by_cases hwd : Region.wanted o (yielded ops a.tmps) = true
        · rw [if_pos hwd] at hw ⊢
          rcases hw with hw | hw
          · refine .inl ?_
            unfold Oper.wp at *
            generalize (execOp a.eval o).run P w' = r at *
            cases r with
            | ok n w2 =>
              cases n <;> simp only [Oper.upon] at hw ⊢
              case value u => exact hw
              case skip => exact hw
              case defer d => exact hw
              case enter f args =>
                exact Calls.mono hw fun e w'' he => by
                  cases e with
                  | returned u => exact he
                  | panicked c => exact he
                  | outgrown => exact he
              case row row args => exact hw
            | halt x w2 =>
              cases x <;> simp only [Oper.upon] at hw ⊢
              case panic u => exact hw
          · exact .inr ⟨hw.1, hw.2⟩
        · rw [if_neg hwd] at hw ⊢
          exact hw
      exact wpOp_mono (fun a' w'' h' => ⟨h'.1, wpAnyE_of_chain m l (i + 1) _ a' w'' hl' ho' hm.2 h'.2⟩) hop
    · simp only [seqMask, pickF, if_true] at hm h ⊢
      exact wpAnyE_of_chain m l (k + 1) listed a w hl' ho' hm h

/-- The three Bools of a region at once. -/
def mixB (md : Region.Mode) (ops : Array Oper) (m : List Bool) (l : List Oper) (n : Nat) : Bool :=
  Region.noSelect ops && decide (m.length = l.length) && dstsOk n (pickT m l) &&
    (match Region.lexMask md ops m 0 (Array.replicate l.length false) with | some le => seqMask md ops m 0 le | none => false)

theorem pick_length : ∀ (m : List Bool) (l : List Oper), m.length = l.length → (pickT m l).length + (pickF m l).length = l.length
  | [], [], _ => rfl
  | [], _ :: _, h => by simp at h
  | _ :: _, [], h => by simp at h
  | b :: m, o :: l, h => by
    have := pick_length m l (by simpa using h)
    cases b <;> simp [pickT, pickF] <;> omega

/-- A REGION THAT DRAWS ITS ORDER: those that the mask names are taken ahead, the rest follows in the one order that it has. -/
theorem wp_region_mix {id : Nat} {Q : Exit → Act → World → Prop} {a af : Act} {w : World} {l : List Oper} (m : List Bool) (n : Nat) (C : World → Prop) (hm : P.follows .mixedOrders = true)
    (hn : a.tmps.size = n) (hB : mixB .any l.toArray m l n = true) (hCE : ∀ w w', C w → Ext w w' → C w') (hC : C w.drew)
    (h : ∀ w', C w' → wpQuiet P l.toArray (fun w'' => ∃ x : ExtOf w', w'' = x.val) (fun a' => a' = af) (pickT m l) a)
    (hr : wpChain P l.toArray C Q (pickF m l) af w.drew) : (Code.region id l.toArray true).wp P Q a w := by
  subst hn
  simp only [mixB, Bool.and_eq_true, decide_eq_true_eq] at hB
  obtain ⟨⟨⟨hs, hl⟩, hd⟩, hx⟩ := hB
  split at hx
  case h_2 => cases hx
  case h_1 le hle =>
    have hq := walkE_of_quiet (P := P) (ops := l.toArray) ⟨_, hC⟩ (pickT m l) a hd h
    have hch := wpAnyE_of_chain (P := P) (md := .any) (ops := l.toArray) (C := C) (Q := Q) m l 0 le af w.drew hl (fun j _ => by simp) hx hr
    have := wpAnyE_lex (P := P) (md := .any) (ops := l.toArray) (Q := Q) hCE hs m l 0 _ a w.drew hl (fun j _ => by simp) hle hq hC hch
    rw [pick_length m l hl] at this
    refine Code.wp_mono quiets_imp (wp_region_any hm ?_)
    have h2 := wpAny_of_E _ _ _ _ this
    simpa using h2

/-- The same, at the class of the worlds that extend the first one. -/
theorem wp_region_mixE {id : Nat} {Q : Exit → Act → World → Prop} {a af : Act} {w : World} {l : List Oper} (m : List Bool) (n : Nat) (hm : P.follows .mixedOrders = true)
    (hn : a.tmps.size = n) (hB : mixB .any l.toArray m l n = true)
    (h : ∀ x : ExtOf w, wpQuiet P l.toArray (fun w'' => ∃ y : ExtOf x.val, w'' = y.val) (fun a' => a' = af) (pickT m l) a)
    (hr : wpChain P l.toArray (Ext w) Q (pickF m l) af w.drew) : (Code.region id l.toArray true).wp P Q a w :=
  wp_region_mix m n (Ext w) hm hn hB (fun _ _ h e => Ext.trans h e) (Ext.refl _).drew (fun w' hw' => h ⟨w', hw'⟩) hr

/-- The same, at the class of the worlds that have the blocks below B as they were. -/
theorem wp_region_mixB {id : Nat} {Q : Exit → Act → World → Prop} {a af : Act} {w : World} {l : List Oper} (B : Nat) (hBw : B ≤ w.heap.size) (m : List Bool) (n : Nat) (hm : P.follows .mixedOrders = true)
    (hn : a.tmps.size = n) (hB : mixB .any l.toArray m l n = true)
    (h : ∀ x : BelOf B w, wpQuiet P l.toArray (fun w'' => ∃ y : ExtOf x.val, w'' = y.val) (fun a' => a' = af) (pickT m l) a)
    (hr : wpChain P l.toArray (Below B w) Q (pickF m l) af w.drew) : (Code.region id l.toArray true).wp P Q a w :=
  wp_region_mix m n (Below B w) hm hn hB (fun _ _ h e => bel_ext h e hBw) (Below.refl _ _).drew (fun w' hw' => h ⟨w', hw'⟩) hr

/-- A region whose rest holds a store into block X (a result's cell, say). -/
theorem wp_region_mixX {id : Nat} {Q : Exit → Act → World → Prop} {a af : Act} {w : World} {l : List Oper} (X : Nat) (m : List Bool) (n : Nat) (hm : P.follows .mixedOrders = true)
    (hn : a.tmps.size = n) (hB : mixB .any l.toArray m l n = true)
    (h : ∀ x : ButOf X w, wpQuiet P l.toArray (fun w'' => ∃ y : ExtOf x.val, w'' = y.val) (fun a' => a' = af) (pickT m l) a)
    (hr : wpChain P l.toArray (fun w' => w.grownBy w' (some X)) Q (pickF m l) af w.drew) : (Code.region id l.toArray true).wp P Q a w :=
  wp_region_mix m n (fun w' => w.grownBy w' (some X)) hm hn hB (fun _ _ h e => but_ext h e) (but_ext (but_refl X w) (Ext.refl w).drew) (fun w' hw' => h ⟨w', hw'⟩) hr

/-- The results of a function that hands back a struct (in a cell) and a slot. -/
theorem results_row_tmp {fn : Func} {p u : Tmp} {ty : TypeId} (h : fn.results = #[.cell p ty, .tmp u]) (tmps : Array Value) (w : World) (g : Nat) (t : TypeId) (cs : Array Value) (fr : Nat × Nat) (d : TypeDesc)
    (hp : tmps.getD p undef = .pointer (some ⟨g, 0, none⟩)) (hg : w.heap[g]? = some (.cells cs t fr))
    (hu : P.underlying ty = some d) (hd : (match d with | .struct _ | .array _ _ => true | _ => false) = true) (hi : (P.info? ty).map (·.size) = some cs.size) :
    (results fn tmps).run P w = .ok (.tuple #[.agg cs, tmps.getD u undef]) w := by
  rw [results_cell_tmp h, hp]
  simp [asAddr, run_loadVar_row w g t ty cs fr d hg hu hd hi]
end
end Go.Proofs.Ytibdplfdmncgiaa

/-
  A region that draws its order and holds, among the rest, a variable that it makes: the making may come up anywhere ahead of its store; it is walked at its place in the text. No condition.
-/
namespace Go.Proofs.Ytibdplfdmncgiaa
open Go.RowKit
theorem wpOp_of_list {P : Program} {ops : Array Oper} {C : World → Prop} {K : Act → World → Prop} {Q : Exit → Act → World → Prop} {i : Nat} {o : Oper} {a : Act} {w : World} (ho : ops[i]? = some o)
    (h : wpList P ops (Exit.then (fun a' w' => C w' ∧ K a' w') (Quiets Q)) [o] a w) : wpOp P ops (Quiets Q) i (fun a' w' => C w' ∧ K a' w') a w := by
  simp only [wpList] at h
  unfold wpOp
  simp only [ho]
  by_cases hwd : Region.wanted o (yielded ops a.tmps) = true
  · rw [if_pos hwd] at h ⊢
    rcases h with h | h
    · refine .inl ?_
      unfold Oper.wp at *
      generalize (execOp a.eval o).run P w = r at *
      cases r with
      | ok n w2 =>
        cases n <;> simp only [Oper.upon] at h ⊢
        case value u => exact h
        case skip => exact h
        case defer d => exact h
        case enter f args =>
          exact Calls.mono h fun e w'' he => by
            cases e with
            | returned u => exact he
            | panicked c => exact he
            | outgrown => exact he
        case row row args => exact h
      | halt x w2 =>
        cases x <;> simp only [Oper.upon] at h ⊢
        case panic u => exact h
    · exact .inr ⟨h.1, h.2⟩
  · rw [if_neg hwd] at h ⊢
    exact h

section
variable {P : Program} {md : Region.Mode} {ops : Array Oper}

/-- An operation that is apart from another one runs as well when that one's value is in its slot already. -/
theorem wpOp_ahead {Q : Exit → Act → World → Prop} {j : Nat} {oi oj : Oper} {v : Value} (hj : ops[j]? = some oj) (hap : oi.apart ops oj = true)
    (hsj : ∀ cs b, oj.op ≠ .select cs b) {K : Act → World → Prop} {a : Act} {w : World} (h : wpOp P ops (Quiets Q) j K a w) :
    wpOp P ops (Quiets Q) j (fun a' w' => ∃ a0, a' = a0.put oi.dst v ∧ K a0 w') (a.put oi.dst v) w := by
  obtain ⟨h1, h2, h3⟩ := Oper.apart_spec hap
  have comm : ∀ (a : Act) u, (a.put oi.dst v).put oj.dst u = (a.put oj.dst u).put oi.dst v := fun a u => Act.put_comm a v u h2
  unfold wpOp at *
  simp only [hj] at *
  rw [wanted_put oj a oi.dst v h1]
  by_cases hw : Region.wanted oj (yielded ops a.tmps) = true
  · rw [if_pos hw] at h ⊢
    have he := execOp_put oj hsj a oi.dst v h1
    rcases h with h | h
    · refine .inl ?_
      unfold Oper.wp at *
      rw [he]
      generalize (execOp a.eval oj).run P w = r at *
      cases r with
      | ok n w' =>
        cases n <;> simp only [Oper.upon] at h ⊢
        case value u => exact ⟨_, comm a u, h⟩
        case skip => exact ⟨_, comm a _, h⟩
        case defer d =>
          refine ⟨_, ?_, h⟩
          rw [Act.put_defers]
          exact comm _ _
        case enter f args =>
          refine Calls.mono h fun e w'' he => ?_
          cases e with
          | returned u => exact ⟨_, comm a u, he⟩
          | panicked c => exact (he : False).elim
          | outgrown => exact he
        case row row args => exact Rows.mono h fun u w'' he => ⟨_, comm a u, he⟩
      | halt x w' =>
        cases x <;> simp only [Oper.upon] at h ⊢
        case panic u => exact (h : False).elim
    · refine .inr ⟨?_, h.2⟩
      have h4 := h.1
      unfold Oper.asks at *
      rwa [he]
  · rw [if_neg hw] at h ⊢
    exact ⟨_, comm a _, h⟩

/-- One operation of a script: taken at once (it gives one value in every world of the class), or walked in whatever extends what was. -/
structure Stp where
  q : Bool
  k : Nat
  o : Oper

/-- The rest ahead of the making; then the making: some block that holds the zeros; then what follows. -/
def wpPre (P : Program) (ops : Array Oper) (C : World → Prop) (B : Nat) (z : Array Value) (t : TypeId) (d : Option Tmp) (K : Act → World → Prop) (Q : Exit → Act → World → Prop) : List Stp → Act → World → Prop
  | [], a, w => ∀ (x : ExtOf w) (g : Nat), B ≤ g → x.val.heap[g]? = some (.cells z t (0, 0)) → K (a.put d (.pointer (some ⟨g, 0, none⟩))) x.val
  | s :: l, a, w => if s.q then ∃ v, YieldsE P ops C s.o v a ∧ wpPre P ops C B z t d K Q l (a.put s.o.dst v) w
    else ∀ x : ExtOf w, wpList P ops (Exit.then (fun a' w'' => Ext x.val w'' ∧ wpPre P ops C B z t d K Q l a' w'') (Quiets Q)) [s.o] a x.val

/-- The rest behind it. -/
def wpPost (P : Program) (ops : Array Oper) (C : World → Prop) (Q : Exit → Act → World → Prop) : List Stp → Act → World → Prop
  | [], a, w => ∀ x : ExtOf w, Q .normal a x.val
  | s :: l, a, w => if s.q then ∃ v, YieldsE P ops C s.o v a ∧ wpPost P ops C Q l (a.put s.o.dst v) w
    else ∀ x : ExtOf w, wpList P ops (Exit.then (fun a' w'' => C w'' ∧ wpPost P ops C Q l a' w'') (Quiets Q)) [s.o] a x.val

theorem wpPre_up {C : World → Prop} {B : Nat} {z : Array Value} {t : TypeId} {d : Option Tmp} {K : Act → World → Prop} {Q : Exit → Act → World → Prop} : ∀ {l : List Stp} {a : Act} {w w' : World}, wpPre P ops C B z t d K Q l a w → Ext w w' → wpPre P ops C B z t d K Q l a w'
  | [], _, _, _, h, e => fun x => h ⟨x.val, e.trans x.ext⟩
  | s :: l, a, w, w', h, e => by
    unfold wpPre at *
    split at h
    · rename_i hq
      rw [if_pos hq]
      obtain ⟨v, hy, hn⟩ := h
      exact ⟨v, hy, wpPre_up hn e⟩
    · rename_i hq
      rw [if_neg hq]
      exact fun x => h ⟨x.val, e.trans x.ext⟩

def floatB (md : Region.Mode) (ops : Array Oper) (i : Nat) (oi : Oper) : List Stp → Array Bool → Bool
  | [], l => decide (Region.ready md ops l = [i])
  | s :: pre, l =>
    (if s.q then (Region.ready md ops l).contains s.k && Region.free md ops l s.k && (Region.ready md ops (l.setIfInBounds i true)).contains s.k && Region.free md ops (l.setIfInBounds i true) s.k
     else (Region.ready md ops l).all (fun j => j == s.k || j == i) && decide (s.k ∈ Region.ready md ops l) && decide (Region.ready md ops (l.setIfInBounds i true) = [s.k])) &&
    decide (s.k ≠ i) && oi.apart ops s.o && floatB md ops i oi pre (l.setIfInBounds s.k true)

/-- What is listed behind those. -/
def listAll : List Stp → Array Bool → Array Bool
  | [], l => l
  | s :: pre, l => listAll pre (l.setIfInBounds s.k true)

variable {C : World → Prop} {Q : Exit → Act → World → Prop} {i : Nat} {oi : Oper} {B : Nat} {z : Array Value} {t : TypeId} {K : Act → World → Prop} {nf : Nat}

theorem float_done (hCE : ∀ w w', C w → Ext w w' → C w') (hsel : ∀ (j : Nat) (o : Oper) cs b, ops[j]? = some o → o.op ≠ .select cs b) :
    ∀ (pre : List Stp) (l : Array Bool) (a : Act) (w : World) (g : Nat), (∀ p ∈ pre, ops[p.k]? = some p.o) → floatB md ops i oi pre l = true →
      (∀ a w, C w → K a w → wpAnyE P md ops C Q nf ((listAll pre l).setIfInBounds i true) a w) →
      wpPre P ops C B z t oi.dst K Q pre a w → C w → B ≤ g → w.heap[g]? = some (.cells z t (0, 0)) →
      wpAnyE P md ops C Q (pre.length + nf) (l.setIfInBounds i true) (a.put oi.dst (.pointer (some ⟨g, 0, none⟩))) w
  | [], l, a, w, g, _, _, hK, h, hC, hg, hz => by
    rw [List.length_nil, Nat.zero_add]
    exact hK _ _ hC (h ⟨w, Ext.refl w⟩ g hg hz)
  | ⟨true, k, o⟩ :: pre, l, a, w, g, hv, hB, hK, h, hC, hg, hz => by
    simp only [floatB, if_true, Bool.and_eq_true, decide_eq_true_eq] at hB
    obtain ⟨⟨⟨⟨⟨⟨_, _⟩, hr⟩, hf⟩, hne⟩, hap⟩, hB'⟩ := hB
    have ho : ops[k]? = some o := hv ⟨true, k, o⟩ (by simp)
    obtain ⟨h1, h2, h3⟩ := Oper.apart_spec hap
    simp only [wpPre, if_true] at h
    obtain ⟨v, hy, hn⟩ := h
    rw [List.length_cons, show pre.length + 1 + nf = (pre.length + nf) + 1 by omega]
    have hy' : YieldsE P ops C o v (a.put oi.dst (.pointer (some ⟨g, 0, none⟩))) := hy.of_same (execOp_put o (fun cs b => hsel k o cs b ho) a oi.dst _ h1) (wanted_put o a oi.dst _ h1)
    refine wpAnyE_first hCE ho hsel _ _ _ w (Region.free_spec ho hf) (by simpa using hr) hy' hC ?_
    rw [Array.setIfInBounds_comm _ _ (Ne.symm hne), Act.put_comm a _ v h2]
    exact float_done hCE hsel pre (l.setIfInBounds k true) _ w g (fun p hp => hv p (List.mem_cons_of_mem _ hp)) hB' hK hn hC hg hz
  | ⟨false, k, o⟩ :: pre, l, a, w, g, hv, hB, hK, h, hC, hg, hz => by
    simp only [floatB, Bool.false_eq_true, if_false, Bool.and_eq_true, decide_eq_true_eq] at hB
    obtain ⟨⟨⟨⟨⟨_, _⟩, hr⟩, hne⟩, hap⟩, hB'⟩ := hB
    have ho : ops[k]? = some o := hv ⟨false, k, o⟩ (by simp)
    simp only [wpPre, Bool.false_eq_true, if_false] at h
    rw [List.length_cons, show pre.length + 1 + nf = (pre.length + nf) + 1 by omega]
    intro w' hw'
    refine ⟨fun h0 => (by rw [hr] at h0; cases h0), fun j hj => ?_⟩
    rw [hr] at hj
    obtain rfl : j = k := by simpa using hj
    have h1 := wpOp_ahead (oi := oi) (v := .pointer (some ⟨g, 0, none⟩)) ho hap (fun cs b => hsel j o cs b ho) (wpOp_of_list (C := fun w'' => Ext w' w'') ho (h ⟨w', hw'⟩))
    refine wpOp_mono (fun a' w'' ⟨a0, ha, he, hp⟩ => ⟨hCE _ _ (hCE _ _ hC hw') he, ?_⟩) h1
    subst ha
    rw [Array.setIfInBounds_comm _ _ (Ne.symm hne)]
    exact float_done hCE hsel pre (l.setIfInBounds j true) a0 w'' g (fun p hp => hv p (List.mem_cons_of_mem _ hp)) hB' hK hp (hCE _ _ (hCE _ _ hC hw') he) hg (heap_ext hz (hw'.trans he))

theorem float_main (hCE : ∀ w w', C w → Ext w w' → C w') (hsel : ∀ (j : Nat) (o : Oper) cs b, ops[j]? = some o → o.op ≠ .select cs b) (hi : ops[i]? = some oi) (hgd : oi.guard = none)
    (hal : ∀ (a : Act) (w : World), (execOp a.eval oi).run P w = .ok (.value (.pointer (some ⟨w.heap.size, 0, none⟩))) (w.alloc (.cells z t))) :
    ∀ (pre : List Stp) (l : Array Bool) (a : Act) (w : World), (∀ p ∈ pre, ops[p.k]? = some p.o) → floatB md ops i oi pre l = true →
      (∀ a w, C w → K a w → wpAnyE P md ops C Q nf ((listAll pre l).setIfInBounds i true) a w) →
      wpPre P ops C B z t oi.dst K Q pre a w → C w → B ≤ w.heap.size → wpAnyE P md ops C Q (pre.length + 1 + nf) l a w := by
  have made : ∀ (pre : List Stp) (l : Array Bool) (a : Act) (w' : World), (∀ p ∈ pre, ops[p.k]? = some p.o) → floatB md ops i oi pre l = true →
      (∀ a w, C w → K a w → wpAnyE P md ops C Q nf ((listAll pre l).setIfInBounds i true) a w) →
      wpPre P ops C B z t oi.dst K Q pre a w' → C w' → B ≤ w'.heap.size →
      wpOp P ops (Quiets Q) i (fun a' w'' => C w'' ∧ wpAnyE P md ops C Q (pre.length + nf) (l.setIfInBounds i true) a' w'') a w' := by
    intro pre l a w' hv hB hK h hC hb
    unfold wpOp
    simp only [hi]
    rw [if_pos (by simp [Region.wanted, hgd])]
    refine .inl ?_
    unfold Oper.wp
    rw [hal]
    have e : Ext w' (w'.alloc (.cells z t)) := (Ext.refl _).alloc _
    exact ⟨hCE _ _ hC e, float_done hCE hsel pre l a _ w'.heap.size hv hB hK (wpPre_up h e) (hCE _ _ hC e) hb (heap_alloc_new w' _)⟩
  intro pre
  induction pre with
  | nil =>
    intro l a w hv hB hK h hC hb
    rw [show ([] : List Stp).length + 1 + nf = nf + 1 by rw [List.length_nil]; omega]
    intro w' hw'
    have hr : Region.ready md ops l = [i] := by simpa [floatB] using hB
    refine ⟨fun h0 => (by rw [hr] at h0; cases h0), fun j hj => ?_⟩
    rw [hr] at hj
    obtain rfl : j = i := by simpa using hj
    have := made [] l a w' hv hB hK (wpPre_up h hw') (hCE _ _ hC hw') (Nat.le_trans hb hw'.size)
    simpa using this
  | cons s pre ih =>
    obtain ⟨q, k, o⟩ := s
    intro l a w hv hB hK h hC hb
    have ho : ops[k]? = some o := hv ⟨q, k, o⟩ (by simp)
    have hB0 := hB
    have h0 := h
    cases q
    · simp only [floatB, Bool.false_eq_true, if_false, Bool.and_eq_true, decide_eq_true_eq] at hB
      obtain ⟨⟨⟨⟨⟨hall, hk⟩, hr⟩, hne⟩, hap⟩, hB'⟩ := hB
      simp only [wpPre, Bool.false_eq_true, if_false] at h
      rw [List.length_cons, show pre.length + 1 + 1 + nf = (pre.length + 1 + nf) + 1 by omega]
      intro w' hw'
      refine ⟨fun h0 => (by rw [h0] at hk; cases hk), fun j hj => ?_⟩
      have hjk : j = k ∨ j = i := by simpa using List.all_eq_true.1 hall j hj
      rcases hjk with rfl | rfl
      · refine wpOp_mono (fun a' w'' ⟨he, hp⟩ => ⟨hCE _ _ (hCE _ _ hC hw') he, ?_⟩) (wpOp_of_list (C := fun w'' => Ext w' w'') ho (h ⟨w', hw'⟩))
        exact ih (l.setIfInBounds j true) a' w'' (fun p hp => hv p (List.mem_cons_of_mem _ hp)) hB' hK hp (hCE _ _ (hCE _ _ hC hw') he) (Nat.le_trans hb (hw'.trans he).size)
      · exact made (⟨false, k, o⟩ :: pre) l a w' hv hB0 hK (wpPre_up h0 hw') (hCE _ _ hC hw') (Nat.le_trans hb hw'.size)
    · simp only [floatB, if_true, Bool.and_eq_true, decide_eq_true_eq] at hB
      obtain ⟨⟨⟨⟨⟨⟨hr, hf⟩, _⟩, _⟩, hne⟩, hap⟩, hB'⟩ := hB
      simp only [wpPre, if_true] at h
      obtain ⟨v, hy, hn⟩ := h
      rw [List.length_cons, show pre.length + 1 + 1 + nf = (pre.length + 1 + nf) + 1 by omega]
      exact wpAnyE_first hCE ho hsel _ _ _ w (Region.free_spec ho hf) (by simpa using hr) hy hC
        (ih (l.setIfInBounds k true) _ w (fun p hp => hv p (List.mem_cons_of_mem _ hp)) hB' hK hn hC hb)

/-- Those of a list that are left, with their numbers; the second mask says which of them are taken at once. -/
def restL : List Bool → List Bool → Nat → List Oper → List Stp
  | b :: m, c :: n, k, o :: l => if b then restL m n (k + 1) l else ⟨c, k, o⟩ :: restL m n (k + 1) l
  | _, _, _, _ => []

theorem restL_valid : ∀ (m c : List Bool) (k : Nat) (l : List Oper), (∀ j, j < l.length → l[j]? = ops[k + j]?) → ∀ p ∈ restL m c k l, ops[p.k]? = some p.o
  | [], _, _, _, _, p, hp => by simp [restL] at hp
  | _ :: _, [], _, _, _, p, hp => by simp [restL] at hp
  | _ :: _, _ :: _, _, [], _, p, hp => by simp [restL] at hp
  | b :: m, c :: n, k, o :: l, ho, p, hp => by
    have h0 : ops[k]? = some o := by simpa using (ho 0 (by simp)).symm
    have ho' : ∀ j, j < l.length → l[j]? = ops[k + 1 + j]? := fun j hj => by
      have := ho (j + 1) (by simp; omega)
      simpa [Nat.add_assoc, Nat.add_comm 1 j] using this
    cases b
    · simp only [restL, Bool.false_eq_true, if_false, List.mem_cons] at hp
      rcases hp with rfl | hp
      · exact h0
      · exact restL_valid m n (k + 1) l ho' p hp
    · simp only [restL, if_true] at hp
      exact restL_valid m n (k + 1) l ho' p hp

theorem restL_length : ∀ (m c : List Bool) (k : Nat) (l : List Oper), m.length = l.length → c.length = l.length → (pickT m l).length + (restL m c k l).length = l.length
  | [], [], _, [], _, _ => rfl
  | [], _, _, _ :: _, h, _ => by simp at h
  | _ :: _, _, _, [], h, _ => by simp at h
  | _, [], _, _ :: _, _, h => by simp at h
  | _, _ :: _, _, [], _, h => by simp at h
  | b :: m, c :: n, k, o :: l, h, h2 => by
    have := restL_length m n (k + 1) l (by simpa using h) (by simpa using h2)
    cases b <;> simp [pickT, restL] <;> omega

def seqL (md : Region.Mode) (ops : Array Oper) : List Stp → Array Bool → Bool
  | [], l => (Region.ready md ops l).isEmpty
  | s :: r, l => (if s.q then (Region.ready md ops l).contains s.k && Region.free md ops l s.k else decide (Region.ready md ops l = [s.k])) && seqL md ops r (l.setIfInBounds s.k true)

theorem post_of_seqL (hCE : ∀ w w', C w → Ext w w' → C w') (hsel : ∀ (j : Nat) (o : Oper) cs b, ops[j]? = some o → o.op ≠ .select cs b) : ∀ (r : List Stp) (l : Array Bool) (a : Act) (w : World), (∀ p ∈ r, ops[p.k]? = some p.o) → seqL md ops r l = true → C w →
    wpPost P ops C Q r a w → wpAnyE P md ops C Q r.length l a w
  | [], l, a, w, _, hB, _, h => ⟨by simpa [seqL] using hB, fun w' hw' => h ⟨w', hw'⟩⟩
  | ⟨false, k, o⟩ :: r, l, a, w, hv, hB, hC, h => by
    simp only [seqL, Bool.false_eq_true, if_false, Bool.and_eq_true, decide_eq_true_eq] at hB
    simp only [wpPost, Bool.false_eq_true, if_false] at h
    have ho : ops[k]? = some o := hv ⟨false, k, o⟩ (by simp)
    intro w' hw'
    refine ⟨fun h0 => (by rw [hB.1] at h0; cases h0), fun j hj => ?_⟩
    rw [hB.1] at hj
    obtain rfl : j = k := by simpa using hj
    exact wpOp_mono (fun a' w'' ⟨hc, hp⟩ => ⟨hc, post_of_seqL hCE hsel r _ a' w'' (fun p hp => hv p (List.mem_cons_of_mem _ hp)) hB.2 hc hp⟩) (wpOp_of_list ho (h ⟨w', hw'⟩))
  | ⟨true, k, o⟩ :: r, l, a, w, hv, hB, hC, h => by
    simp only [seqL, if_true, Bool.and_eq_true] at hB
    simp only [wpPost, if_true] at h
    obtain ⟨v, hy, hn⟩ := h
    have ho : ops[k]? = some o := hv ⟨true, k, o⟩ (by simp)
    exact wpAnyE_first hCE ho hsel _ _ _ w (Region.free_spec ho hB.1.2) (by simpa using hB.1.1) hy hC
      (post_of_seqL hCE hsel r _ _ w (fun p hp => hv p (List.mem_cons_of_mem _ hp)) hB.2 hC hn)

/-- The Bools of such a region: n0 of the rest stand ahead of the making. -/
def mixFB (ops : Array Oper) (m c : List Bool) (l : List Oper) (n n0 : Nat) : Bool :=
  Region.noSelect ops && decide (m.length = l.length) && decide (c.length = l.length) && dstsOk n (pickT m l) &&
    (match Region.lexMask .any ops m 0 (Array.replicate l.length false) with
     | some le => (match (restL m c 0 l).drop n0 with
       | ⟨_, i, oi⟩ :: post => oi.guard.isNone && floatB .any ops i oi ((restL m c 0 l).take n0) le && seqL .any ops post ((listAll ((restL m c 0 l).take n0) le).setIfInBounds i true)
       | [] => false)
     | none => false)

/-- What is asked of the rest: those ahead, the making, those behind. -/
def wpFloat (P : Program) (ops : Array Oper) (C : World → Prop) (B : Nat) (z : Array Value) (t : TypeId) (Q : Exit → Act → World → Prop) (n0 : Nat) (l : List Stp) (a : Act) (w : World) : Prop :=
  match l.drop n0 with
  | s :: post => (∀ (a : Act) (w : World), (execOp a.eval s.o).run P w = .ok (.value (.pointer (some ⟨w.heap.size, 0, none⟩))) (w.alloc (.cells z t))) ∧ wpPre P ops C B z t s.o.dst (wpPost P ops C Q post) Q (l.take n0) a w
  | [] => False

/-- A REGION THAT DRAWS ITS ORDER AND MAKES A VARIABLE. -/
theorem wp_region_mixF {id : Nat} {a af : Act} {w : World} {l : List Oper} (z : Array Value) (t : TypeId) (m c : List Bool) (n n0 : Nat) (hm : P.follows .mixedOrders = true)
    (hn : a.tmps.size = n) (hB : mixFB l.toArray m c l n n0 = true) (hCE : ∀ w w', C w → Ext w w' → C w') (hC : C w.drew)
    (h : ∀ w', C w' → wpQuiet P l.toArray (fun w'' => ∃ x : ExtOf w', w'' = x.val) (fun a' => a' = af) (pickT m l) a)
    (hr : wpFloat P l.toArray C w.heap.size z t Q n0 (restL m c 0 l) af w.drew) : (Code.region id l.toArray true).wp P Q a w := by
  subst hn
  simp only [mixFB, Bool.and_eq_true, decide_eq_true_eq] at hB
  obtain ⟨⟨⟨⟨hs, hl⟩, hcl⟩, hd⟩, hx⟩ := hB
  split at hx
  case h_2 => cases hx
  case h_1 le hle =>
    unfold wpFloat at hr
    split at hx
    case h_2 => cases hx
    case h_1 q i oi post hdrop =>
      simp only [Bool.and_eq_true] at hx
      obtain ⟨⟨hg, hf⟩, hsq⟩ := hx
      have hsel := Region.noSelect_spec hs
      have hv := restL_valid (ops := l.toArray) m c 0 l (fun j _ => by simp)
      have hvp : ∀ p ∈ post, l.toArray[p.k]? = some p.o := fun p hp => hv p (List.mem_of_mem_drop (by rw [hdrop]; exact List.mem_cons_of_mem _ hp))
      have hvi : l.toArray[i]? = some oi := hv ⟨q, i, oi⟩ (List.mem_of_mem_drop (by rw [hdrop]; simp))
      have hvt : ∀ p ∈ (restL m c 0 l).take n0, l.toArray[p.k]? = some p.o := fun p hp => hv p (List.mem_of_mem_take hp)
      rw [hdrop] at hr
      obtain ⟨hal, hpre⟩ := hr
      have hq := walkE_of_quiet (P := P) (ops := l.toArray) (C := C) ⟨_, hC⟩ (pickT m l) a hd h
      have hmain := float_main (P := P) (md := .any) (ops := l.toArray) (C := C) (Q := Q) (K := wpPost P l.toArray C Q post) (nf := post.length) hCE hsel hvi (by simpa using hg) hal
        ((restL m c 0 l).take n0) le af w.drew hvt hf (fun a w hc hk => post_of_seqL hCE hsel post _ a w hvp hsq hc hk) hpre hC (Nat.le_refl _)
      have := wpAnyE_lex (P := P) (md := .any) (ops := l.toArray) (Q := Q) hCE hs m l 0 _ a w.drew hl (fun j _ => by simp) hle hq hC hmain
      have hlen : (pickT m l).length + (((restL m c 0 l).take n0).length + 1 + post.length) = l.length := by
        have h1 := restL_length m c 0 l hl hcl
        have h3 : ((restL m c 0 l).take n0).length + ((restL m c 0 l).drop n0).length = (restL m c 0 l).length := by rw [← List.length_append, List.take_append_drop]
        rw [hdrop] at h3
        simp only [List.length_cons] at h3
        omega
      rw [hlen] at this
      refine Code.wp_mono quiets_imp (wp_region_any hm ?_)
      have h2 := wpAny_of_E _ _ _ _ this
      simpa using h2

/-- The same without a making. -/
theorem wp_region_mixQ {id : Nat} {a af : Act} {w : World} {l : List Oper} (m c : List Bool) (n : Nat) (hm : P.follows .mixedOrders = true)
    (hn : a.tmps.size = n) (hB : (Region.noSelect l.toArray && decide (m.length = l.length) && decide (c.length = l.length) && dstsOk n (pickT m l) &&
      (match Region.lexMask .any l.toArray m 0 (Array.replicate l.length false) with | some le => seqL .any l.toArray (restL m c 0 l) le | none => false)) = true) (hCE : ∀ w w', C w → Ext w w' → C w') (hC : C w.drew)
    (h : ∀ w', C w' → wpQuiet P l.toArray (fun w'' => ∃ x : ExtOf w', w'' = x.val) (fun a' => a' = af) (pickT m l) a)
    (hr : wpPost P l.toArray C Q (restL m c 0 l) af w.drew) : (Code.region id l.toArray true).wp P Q a w := by
  subst hn
  simp only [Bool.and_eq_true, decide_eq_true_eq] at hB
  obtain ⟨⟨⟨⟨hs, hl⟩, hcl⟩, hd⟩, hx⟩ := hB
  split at hx
  case h_2 => cases hx
  case h_1 le hle =>
    have hv := restL_valid (ops := l.toArray) m c 0 l (fun j _ => by simp)
    have hq := walkE_of_quiet (P := P) (ops := l.toArray) (C := C) ⟨_, hC⟩ (pickT m l) a hd h
    have := wpAnyE_lex (P := P) (md := .any) (ops := l.toArray) (Q := Q) hCE hs m l 0 _ a w.drew hl (fun j _ => by simp) hle hq hC (post_of_seqL hCE (Region.noSelect_spec hs) _ _ _ _ hv hx hC hr)
    rw [restL_length m c 0 l hl hcl] at this
    refine Code.wp_mono quiets_imp (wp_region_any hm ?_)
    have h2 := wpAny_of_E _ _ _ _ this
    simpa using h2
end
end Go.Proofs.Ytibdplfdmncgiaa
