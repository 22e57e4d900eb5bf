/-
  Maps in memory, for any kind of key: what a lookup, a store do. No condition.
-/
import Derived.Test.YtfibbhmmiemcoaaML19
import Derived.Laws.AppendOwnNone
import Derived.Deep.LoopGhost
import Derived.Laws.Cover3
set_option linter.all false
namespace Go.Proofs.Ytfibbhmmiemcoaa
open Go.RowKit

/-- Block b is another one. -/
def setB (w : World) (r : Nat) (ob : Obj) : World := { w with heap := w.heap.setIfInBounds r ob }
theorem setB_same {w : World} {r : Nat} {ob : Obj} (h : r < w.heap.size) : (setB w r ob).heap[r]? = some ob := by simp [setB, h]
theorem setB_other {w : World} {r k : Nat} {ob : Obj} (h : k ≠ r) : (setB w r ob).heap[k]? = w.heap[k]? := by simp [setB, Array.getElem?_setIfInBounds_ne (Ne.symm h)]
theorem run_getMap {P : Program} {w : World} {r : Nat} {arr : Array MapEntry} {clock : Nat} (h : w.heap[r]? = some (.map arr clock)) : (getObj r).run P w = .ok (.map arr clock) w := by
  simp [getObj, Sem.run, h]
theorem run_setMap {P : Program} {w : World} {r : Nat} {arr arr' : Array MapEntry} {clock clock' : Nat} (h : w.heap[r]? = some (.map arr clock)) : (Go.setObj r (.map arr' clock')).run P w = .ok () (setB w r (.map arr' clock')) := by
  simp [Go.setObj, Sem.run, h, setB]

/-- Keys of one type, each a value that is compared as the keys are. -/
structure KeysOk (P : Program) (kt : TypeId) {α : Type} [DecidableEq α] (kv : α → Value) : Prop where
  find : ∀ (x : α) (es : List MapEntry) (S : List (α × Value)) (w : World), es.map (fun e => (e.key, e.val)) = S.map (fun p => (kv p.1, p.2)) →
    (Instr.findKey kt (kv x) es).run P w = .ok ((S.findIdx? (fun p => decide (p.1 = x))).bind fun j => (S[j]?).map fun p => (j, p.2)) w
  chk : ∀ (x : α) (e : Bool) (w : World), (Instr.checkKey e 10000 kt (kv x)).run P w = .ok () w
  bits : ∀ x, Instr.sameBits 10000 (kv x) (kv x) = true

/-- Block b is a map of these. -/
def MapG {α : Type} (kv : α → Value) (b : Nat) (S : List (α × Value)) (w : World) : Prop := ∃ es clock, w.heap[b]? = some (.map es clock) ∧ es.toList.map (fun e => (e.key, e.val)) = S.map (fun p => (kv p.1, p.2))

section
variable {α : Type} {kv : α → Value} {b : Nat} {S : List (α × Value)} {w w' : World}
theorem MapG.same (h : MapG kv b S w) (e : w'.heap[b]? = w.heap[b]?) : MapG kv b S w' := by
  obtain ⟨es, clock, h1, h2⟩ := h
  exact ⟨es, clock, e.trans h1, h2⟩
theorem MapG.ext (h : MapG kv b S w) (e : Ext w w') : MapG kv b S w' := by
  obtain ⟨es, clock, h1, h2⟩ := h
  exact ⟨es, clock, heap_ext h1 e, h2⟩
theorem MapG.lt (h : MapG kv b S w) : b < w.heap.size := by
  obtain ⟨es, clock, h1, _⟩ := h
  exact (Array.getElem?_eq_some_iff.1 h1).1
end

section
variable {P : Program} {kt et T : TypeId} {α : Type} [DecidableEq α] {kv : α → Value}
def getM (S : List (α × Value)) (x : α) : Option Value := (S.find? fun p => decide (p.1 = x)).map (·.2)
def putM (S : List (α × Value)) (x : α) (v : Value) : List (α × Value) := match S.findIdx? (fun p => decide (p.1 = x)) with
  | some j => S.set j (x, v)
  | none => S ++ [(x, v)]
theorem find_of_idxM (S : List (α × Value)) (x : α) : ((S.findIdx? (fun p => decide (p.1 = x))).bind fun j => (S[j]?).map (·.2)) = getM S x := by
  unfold getM
  induction S with
  | nil => rfl
  | cons t S ih =>
    rw [List.findIdx?_cons, List.find?_cons]
    cases h : decide (t.1 = x) with
    | true => simp
    | false =>
      simp only [Bool.false_eq_true, if_false]
      rw [← ih]
      cases S.findIdx? (fun p => decide (p.1 = x)) with
      | none => rfl
      | some j => rfl

def lookG (S : List (α × Value)) (x : α) (z : Value) (ok : Bool) : Value := match getM S x with
  | some v => if ok then .tuple #[v, .bool true] else v
  | none => if ok then .tuple #[z, .bool false] else z
theorem run_lookupG (hK : KeysOk P kt kv) (hT : P.underlying T = some (.map kt et)) {z : Value} (hz : ∀ w, (zeroValue et).run P w = .ok z w) {w : World} {b : Nat} {S : List (α × Value)} (hM : MapG kv b S w) (x : α) (ok : Bool) :
    (Instr.lookup T (.map (some b)) (kv x) ok).run P w = .ok (lookG S x z ok) w := by
  obtain ⟨es, clock, h1, h2⟩ := hM
  have hf := hK.find x es.toList S w h2
  have hg := find_of_idxM S x
  simp only [Instr.lookup, Sem.run_bind, run_underlying hT w, Result.andThen_ok, run_getMap h1, Sem.run_pure, hK.chk, hf]
  cases hi : S.findIdx? (fun p => decide (p.1 = x)) with
  | none =>
    rw [hi] at hg
    simp only [Option.bind_none] at hg ⊢
    simp only [Sem.run_bind, hz, Result.andThen_ok, Sem.run_pure]
    cases ok <;> simp [lookG, ← hg]
  | some j =>
    rw [hi] at hg
    simp only [Option.bind_some] at hg ⊢
    obtain ⟨hlt, _⟩ := List.findIdx?_eq_some_iff_getElem.1 hi
    rw [List.getElem?_eq_getElem hlt] at hg ⊢
    simp only [Option.map_some] at hg ⊢
    cases ok <;> simp [lookG, ← hg]

theorem run_updateG (hK : KeysOk P kt kv) (hT : P.underlying T = some (.map kt et)) {w : World} {b : Nat} {S : List (α × Value)} (hM : MapG kv b S w) (x : α) (v : Value) :
    ∃ ob, (Instr.mapUpdate T (.map (some b)) (kv x) v).run P w = .ok () (setB w b ob) ∧ MapG kv b (putM S x v) (setB w b ob) := by
  have hlt := hM.lt
  obtain ⟨es, clock, h1, h2⟩ := hM
  have hf := hK.find x es.toList S w h2
  cases hi : S.findIdx? (fun p => decide (p.1 = x)) with
  | none =>
    rw [hi] at hf
    simp only [Option.bind_none] at hf
    refine ⟨.map (es.push { key := kv x, val := v, born := clock }) (clock + 1), ?_, _, _, setB_same hlt, ?_⟩
    · simp only [Instr.mapUpdate, Sem.run_bind, run_underlying hT w, Result.andThen_ok, run_getMap h1, hK.chk, hf, run_setMap h1]
    · simp [putM, hi, h2]
  | some j =>
    obtain ⟨hjS, hp, _⟩ := List.findIdx?_eq_some_iff_getElem.1 hi
    rw [hi] at hf
    simp only [Option.bind_some, List.getElem?_eq_getElem hjS, Option.map_some] at hf
    have hpx : S[j].1 = x := by simpa using hp
    have hjl : j < es.size := by
      have := congrArg List.length h2
      simp only [List.length_map, Array.length_toList] at this
      rw [this]; exact hjS
    have hkey : (es[j]?).map (·.key) = some (kv x) := by
      have h3 := congrArg (fun l => (l[j]?).map Prod.fst) h2
      simp only [List.getElem?_map, List.getElem?_eq_getElem hjS, Option.map_some, Array.getElem?_toList, hpx] at h3
      rw [← h3]
      cases es[j]? <;> rfl
    refine ⟨.map (es.modify j fun e => { e with key := kv x, val := v }) clock, ?_, _, _, setB_same hlt, ?_⟩
    · have hst : (Instr.keyThatStays (kv x) (kv x)).run P w = .ok (kv x) w := by
        unfold Instr.keyThatStays
        rw [if_pos (hK.bits x)]
        rfl
      simp only [Instr.mapUpdate, Sem.run_bind, run_underlying hT w, Result.andThen_ok, run_getMap h1, hK.chk, hf, hkey, Option.getD_some, hst, run_setMap h1]
    · simp only [putM, hi]
      rw [List.map_set, ← h2]
      refine List.ext_getElem? fun m => ?_
      simp only [List.getElem?_map, Array.getElem?_toList, Array.getElem?_modify, List.getElem?_set, List.length_map, Array.length_toList]
      by_cases hjm : j = m
      · subst hjm
        simp [hjl]
      · simp [hjm]

/-- Numbers as keys. -/
theorem keys_int {q : IntKind} (hk : P.underlying kt = some (.int q)) : KeysOk P kt (fun n : Int => Value.int .i64 n) where
  find := by
    intro x es S w h
    have key : ∀ (l : List MapEntry) (S : List (Int × Value)) (i : Nat), l.map (fun e => (e.key, e.val)) = S.map (fun p => (Value.int .i64 p.1, p.2)) →
        Instr.findNow (.int q) (.int .i64 x) l i = some ((S.findIdx? (fun p => decide (p.1 = x))).bind fun j => (S[j]?).map fun p => (i + j, p.2)) := by
      intro l
      induction l with
      | nil => intro S i h; cases S with
        | nil => rfl
        | cons t S => simp at h
      | cons e l ih =>
        intro S i h
        cases S with
        | nil => simp at h
        | cons t S =>
          simp only [List.map_cons, List.cons.injEq, Prod.mk.injEq] at h
          obtain ⟨⟨h1, h2⟩, h3⟩ := h
          unfold Instr.findNow
          rw [h1, h2]
          simp only [Instr.sameNow, if_true]
          rw [List.findIdx?_cons]
          by_cases hk : t.1 = x
          · subst hk
            simp
          · have hk' : (x == t.1) = false := by simpa using fun e => hk e.symm
            rw [hk']
            simp only [decide_eq_false hk, Bool.false_eq_true, if_false]
            rw [ih S (i + 1) h3]
            congr 1
            cases S.findIdx? (fun p => decide (p.1 = x)) with
            | none => rfl
            | some j => simp [Nat.add_assoc, Nat.add_comm 1 j]
    simp only [Instr.findKey, Sem.run_bind, run_underlying hk w, Result.andThen_ok, key es S 0 h, Nat.zero_add]
    rfl
  chk := by
    intro x e w
    unfold Instr.checkKey
    simp only [Sem.run_bind, run_underlying hk w, Result.andThen_ok]
    rfl
  bits := by
    intro x
    simp [Instr.sameBits]

/-- Structs as keys. -/
theorem keys_struct {fs : Array Field} (hk : P.underlying kt = some (.struct fs)) (heq : ∀ x y w, (Op.equal kt (kv x) (kv y)).run P w = .ok (decide (y = x)) w) (hchk : ∀ (x : α) (e : Bool) (w : World), (Instr.checkKey e 10000 kt (kv x)).run P w = .ok () w) (hb : ∀ x, Instr.sameBits 10000 (kv x) (kv x) = true) : KeysOk P kt kv where
  find := by
    intro x es S w h
    have key : ∀ (l : List MapEntry) (S : List (α × Value)) (i : Nat), l.map (fun e => (e.key, e.val)) = S.map (fun p => (kv p.1, p.2)) →
        (Instr.findAsking kt (kv x) l i).run P w = .ok ((S.findIdx? (fun p => decide (p.1 = x))).bind fun j => (S[j]?).map fun p => (i + j, p.2)) w := by
      intro l
      induction l with
      | nil => intro S i h; cases S with
        | nil => rfl
        | cons t S => simp at h
      | cons e l ih =>
        intro S i h
        cases S with
        | nil => simp at h
        | cons t S =>
          simp only [List.map_cons, List.cons.injEq, Prod.mk.injEq] at h
          obtain ⟨⟨h1, h2⟩, h3⟩ := h
          unfold Instr.findAsking
          rw [h1, h2]
          simp only [Sem.run_bind, heq, Result.andThen_ok]
          rw [List.findIdx?_cons]
          by_cases hk : t.1 = x
          · simp [hk]
          · simp only [decide_eq_false hk, Bool.false_eq_true, if_false]
            rw [ih S (i + 1) h3]
            cases S.findIdx? (fun p => decide (p.1 = x)) with
            | none => rfl
            | some j => simp [Nat.add_assoc, Nat.add_comm 1 j]
    have hk1 := key es S 0 h
    simp only [Nat.zero_add] at hk1
    cases es with
    | nil =>
      cases S with
      | nil =>
        simp only [Instr.findKey, Sem.run_bind, run_underlying hk w, Result.andThen_ok]
        rfl
      | cons t S => simp at h
    | cons e l =>
      have hf : Instr.findNow (.struct fs) (kv x) (e :: l) 0 = none := by
        unfold Instr.findNow
        have : Instr.sameNow (.struct fs) (kv x) e.key = none := by
          generalize kv x = a
          generalize e.key = c
          cases a <;> cases c <;> rfl
        rw [this]
      simp only [Instr.findKey, Sem.run_bind, run_underlying hk w, Result.andThen_ok, hf]
      exact hk1
  chk := hchk
  bits := hb
end
end Go.Proofs.Ytfibbhmmiemcoaa

/-
  A region that draws its order and holds, among the rest, a variable that it makes: the making may come up anywhere ahead of its store; it is walked at its place in the text. No condition.
-/
namespace Go.Proofs.Ytfibbhmmiemcoaa
open Go.RowKit
theorem wpOp_of_list {P : Program} {ops : Array Oper} {C : World → Prop} {K : Act → World → Prop} {Q : Exit → Act → World → Prop} {i : Nat} {o : Oper} {a : Act} {w : World} (ho : ops[i]? = some o)
    (h : wpList P ops (Exit.then (fun a' w' => C w' ∧ K a' w') (Quiets Q)) [o] a w) : wpOp P ops (Quiets Q) i (fun a' w' => C w' ∧ K a' w') a w := by
  simp only [wpList] at h
  unfold wpOp
  simp only [ho]
  by_cases hwd : Region.wanted o (yielded ops a.tmps) = true
  · rw [if_pos hwd] at h ⊢
    rcases h with h | h
    · refine .inl ?_
      unfold Oper.wp at *
      generalize (execOp a.eval o).run P w = r at *
      cases r with
      | ok n w2 =>
        cases n <;> simp only [Oper.upon] at h ⊢
        case value u => exact h
        case skip => exact h
        case defer d => exact h
        case enter f args =>
          exact Calls.mono h fun e w'' he => by
            cases e with
            | returned u => exact he
            | panicked c => exact he
            | outgrown => exact he
        case row row args => exact h
      | halt x w2 =>
        cases x <;> simp only [Oper.upon] at h ⊢
        case panic u => exact h
    · exact .inr ⟨h.1, h.2⟩
  · rw [if_neg hwd] at h ⊢
    exact h

section
variable {P : Program} {md : Region.Mode} {ops : Array Oper}

/-- An operation that is apart from another one runs as well when that one's value is in its slot already. -/
theorem wpOp_ahead {Q : Exit → Act → World → Prop} {j : Nat} {oi oj : Oper} {v : Value} (hj : ops[j]? = some oj) (hap : oi.apart ops oj = true)
    (hsj : ∀ cs b, oj.op ≠ .select cs b) {K : Act → World → Prop} {a : Act} {w : World} (h : wpOp P ops (Quiets Q) j K a w) :
    wpOp P ops (Quiets Q) j (fun a' w' => ∃ a0, a' = a0.put oi.dst v ∧ K a0 w') (a.put oi.dst v) w := by
  obtain ⟨h1, h2, h3⟩ := Oper.apart_spec hap
  have comm : ∀ (a : Act) u, (a.put oi.dst v).put oj.dst u = (a.put oj.dst u).put oi.dst v := fun a u => Act.put_comm a v u h2
  unfold wpOp at *
  simp only [hj] at *
  rw [wanted_put oj a oi.dst v h1]
  by_cases hw : Region.wanted oj (yielded ops a.tmps) = true
  · rw [if_pos hw] at h ⊢
    have he := execOp_put oj hsj a oi.dst v h1
    rcases h with h | h
    · refine .inl ?_
      unfold Oper.wp at *
      rw [he]
      generalize (execOp a.eval oj).run P w = r at *
      cases r with
      | ok n w' =>
        cases n <;> simp only [Oper.upon] at h ⊢
        case value u => exact ⟨_, comm a u, h⟩
        case skip => exact ⟨_, comm a _, h⟩
        case defer d =>
          refine ⟨_, ?_, h⟩
          rw [Act.put_defers]
          exact comm _ _
        case enter f args =>
          refine Calls.mono h fun e w'' he => ?_
          cases e with
          | returned u => exact ⟨_, comm a u, he⟩
          | panicked c => exact (he : False).elim
          | outgrown => exact he
        case row row args => exact Rows.mono h fun u w'' he => ⟨_, comm a u, he⟩
      | halt x w' =>
        cases x <;> simp only [Oper.upon] at h ⊢
        case panic u => exact (h : False).elim
    · refine .inr ⟨?_, h.2⟩
      have h4 := h.1
      unfold Oper.asks at *
      rwa [he]
  · rw [if_neg hw] at h ⊢
    exact ⟨_, comm a _, h⟩

/-- One operation of a script: taken at once (it gives one value in every world of the class), or walked in whatever extends what was. -/
structure Stp where
  q : Bool
  k : Nat
  o : Oper

/-- The rest ahead of the making; then the making: some block that holds the zeros; then what follows. -/
def wpPre (P : Program) (ops : Array Oper) (C : World → Prop) (B : Nat) (z : Array Value) (t : TypeId) (d : Option Tmp) (K : Act → World → Prop) (Q : Exit → Act → World → Prop) : List Stp → Act → World → Prop
  | [], a, w => ∀ (x : ExtOf w) (g : Nat), B ≤ g → x.val.heap[g]? = some (.cells z t (0, 0)) → K (a.put d (.pointer (some ⟨g, 0, none⟩))) x.val
  | s :: l, a, w => if s.q then ∃ v, YieldsE P ops C s.o v a ∧ wpPre P ops C B z t d K Q l (a.put s.o.dst v) w
    else ∀ x : ExtOf w, wpList P ops (Exit.then (fun a' w'' => Ext x.val w'' ∧ wpPre P ops C B z t d K Q l a' w'') (Quiets Q)) [s.o] a x.val

/-- The rest behind it. -/
def wpPost (P : Program) (ops : Array Oper) (C : World → Prop) (Q : Exit → Act → World → Prop) : List Stp → Act → World → Prop
  | [], a, w => ∀ x : ExtOf w, Q .normal a x.val
  | s :: l, a, w => if s.q then ∃ v, YieldsE P ops C s.o v a ∧ wpPost P ops C Q l (a.put s.o.dst v) w
    else ∀ x : ExtOf w, wpList P ops (Exit.then (fun a' w'' => C w'' ∧ wpPost P ops C Q l a' w'') (Quiets Q)) [s.o] a x.val

theorem wpPre_up {C : World → Prop} {B : Nat} {z : Array Value} {t : TypeId} {d : Option Tmp} {K : Act → World → Prop} {Q : Exit → Act → World → Prop} : ∀ {l : List Stp} {a : Act} {w w' : World}, wpPre P ops C B z t d K Q l a w → Ext w w' → wpPre P ops C B z t d K Q l a w'
  | [], _, _, _, h, e => fun x => h ⟨x.val, e.trans x.ext⟩
  | s :: l, a, w, w', h, e => by
    unfold wpPre at *
    split at h
    · rename_i hq
      rw [if_pos hq]
      obtain ⟨v, hy, hn⟩ := h
      exact ⟨v, hy, wpPre_up hn e⟩
    · rename_i hq
      rw [if_neg hq]
      exact fun x => h ⟨x.val, e.trans x.ext⟩

def floatB (md : Region.Mode) (ops : Array Oper) (i : Nat) (oi : Oper) : List Stp → Array Bool → Bool
  | [], l => decide (Region.ready md ops l = [i])
  | s :: pre, l =>
    (if s.q then (Region.ready md ops l).contains s.k && Region.free md ops l s.k && (Region.ready md ops (l.setIfInBounds i true)).contains s.k && Region.free md ops (l.setIfInBounds i true) s.k
     else (Region.ready md ops l).all (fun j => j == s.k || j == i) && decide (s.k ∈ Region.ready md ops l) && decide (Region.ready md ops (l.setIfInBounds i true) = [s.k])) &&
    decide (s.k ≠ i) && oi.apart ops s.o && floatB md ops i oi pre (l.setIfInBounds s.k true)

/-- What is listed behind those. -/
def listAll : List Stp → Array Bool → Array Bool
  | [], l => l
  | s :: pre, l => listAll pre (l.setIfInBounds s.k true)

variable {C : World → Prop} {Q : Exit → Act → World → Prop} {i : Nat} {oi : Oper} {B : Nat} {z : Array Value} {t : TypeId} {K : Act → World → Prop} {nf : Nat}

theorem float_done (hCE : ∀ w w', C w → Ext w w' → C w') (hsel : ∀ (j : Nat) (o : Oper) cs b, ops[j]? = some o → o.op ≠ .select cs b) :
    ∀ (pre : List Stp) (l : Array Bool) (a : Act) (w : World) (g : Nat), (∀ p ∈ pre, ops[p.k]? = some p.o) → floatB md ops i oi pre l = true →
      (∀ a w, C w → K a w → wpAnyE P md ops C Q nf ((listAll pre l).setIfInBounds i true) a w) →
      wpPre P ops C B z t oi.dst K Q pre a w → C w → B ≤ g → w.heap[g]? = some (.cells z t (0, 0)) →
      wpAnyE P md ops C Q (pre.length + nf) (l.setIfInBounds i true) (a.put oi.dst (.pointer (some ⟨g, 0, none⟩))) w
  | [], l, a, w, g, _, _, hK, h, hC, hg, hz => by
    rw [List.length_nil, Nat.zero_add]
    exact hK _ _ hC (h ⟨w, Ext.refl w⟩ g hg hz)
  | ⟨true, k, o⟩ :: pre, l, a, w, g, hv, hB, hK, h, hC, hg, hz => by
    simp only [floatB, if_true, Bool.and_eq_true, decide_eq_true_eq] at hB
    obtain ⟨⟨⟨⟨⟨⟨_, _⟩, hr⟩, hf⟩, hne⟩, hap⟩, hB'⟩ := hB
    have ho : ops[k]? = some o := hv ⟨true, k, o⟩ (by simp)
    obtain ⟨h1, h2, h3⟩ := Oper.apart_spec hap
    simp only [wpPre, if_true] at h
    obtain ⟨v, hy, hn⟩ := h
    rw [List.length_cons, show pre.length + 1 + nf = (pre.length + nf) + 1 by omega]
    have hy' : YieldsE P ops C o v (a.put oi.dst (.pointer (some ⟨g, 0, none⟩))) := hy.of_same (execOp_put o (fun cs b => hsel k o cs b ho) a oi.dst _ h1) (wanted_put o a oi.dst _ h1)
    refine wpAnyE_first hCE ho hsel _ _ _ w (Region.free_spec ho hf) (by simpa using hr) hy' hC ?_
    rw [Array.setIfInBounds_comm _ _ (Ne.symm hne), Act.put_comm a _ v h2]
    exact float_done hCE hsel pre (l.setIfInBounds k true) _ w g (fun p hp => hv p (List.mem_cons_of_mem _ hp)) hB' hK hn hC hg hz
  | ⟨false, k, o⟩ :: pre, l, a, w, g, hv, hB, hK, h, hC, hg, hz => by
    simp only [floatB, Bool.false_eq_true, if_false, Bool.and_eq_true, decide_eq_true_eq] at hB
    obtain ⟨⟨⟨⟨⟨_, _⟩, hr⟩, hne⟩, hap⟩, hB'⟩ := hB
    have ho : ops[k]? = some o := hv ⟨false, k, o⟩ (by simp)
    simp only [wpPre, Bool.false_eq_true, if_false] at h
    rw [List.length_cons, show pre.length + 1 + nf = (pre.length + nf) + 1 by omega]
    intro w' hw'
    refine ⟨fun h0 => (by rw [hr] at h0; cases h0), fun j hj => ?_⟩
    rw [hr] at hj
    obtain rfl : j = k := by simpa using hj
    have h1 := wpOp_ahead (oi := oi) (v := .pointer (some ⟨g, 0, none⟩)) ho hap (fun cs b => hsel j o cs b ho) (wpOp_of_list (C := fun w'' => Ext w' w'') ho (h ⟨w', hw'⟩))
    refine wpOp_mono (fun a' w'' ⟨a0, ha, he, hp⟩ => ⟨hCE _ _ (hCE _ _ hC hw') he, ?_⟩) h1
    subst ha
    rw [Array.setIfInBounds_comm _ _ (Ne.symm hne)]
    exact float_done hCE hsel pre (l.setIfInBounds j true) a0 w'' g (fun p hp => hv p (List.mem_cons_of_mem _ hp)) hB' hK hp (hCE _ _ (hCE _ _ hC hw') he) hg (heap_ext hz (hw'.trans he))

theorem float_main (hCE : ∀ w w', C w → Ext w w' → C w') (hsel : ∀ (j : Nat) (o : Oper) cs b, ops[j]? = some o → o.op ≠ .select cs b) (hi : ops[i]? = some oi) (hgd : oi.guard = none)
    (hal : ∀ (a : Act) (w : World), (execOp a.eval oi).run P w = .ok (.value (.pointer (some ⟨w.heap.size, 0, none⟩))) (w.alloc (.cells z t))) :
    ∀ (pre : List Stp) (l : Array Bool) (a : Act) (w : World), (∀ p ∈ pre, ops[p.k]? = some p.o) → floatB md ops i oi pre l = true →
      (∀ a w, C w → K a w → wpAnyE P md ops C Q nf ((listAll pre l).setIfInBounds i true) a w) →
      wpPre P ops C B z t oi.dst K Q pre a w → C w → B ≤ w.heap.size → wpAnyE P md ops C Q (pre.length + 1 + nf) l a w := by
  have made : ∀ (pre : List Stp) (l : Array Bool) (a : Act) (w' : World), (∀ p ∈ pre, ops[p.k]? = some p.o) → floatB md ops i oi pre l = true →
      (∀ a w, C w → K a w → wpAnyE P md ops C Q nf ((listAll pre l).setIfInBounds i true) a w) →
      wpPre P ops C B z t oi.dst K Q pre a w' → C w' → B ≤ w'.heap.size →
      wpOp P ops (Quiets Q) i (fun a' w'' => C w'' ∧ wpAnyE P md ops C Q (pre.length + nf) (l.setIfInBounds i true) a' w'') a w' := by
    intro pre l a w' hv hB hK h hC hb
    unfold wpOp
    simp only [hi]
    rw [if_pos (by simp [Region.wanted, hgd])]
    refine .inl ?_
    unfold Oper.wp
    rw [hal]
    have e : Ext w' (w'.alloc (.cells z t)) := (Ext.refl _).alloc _
    exact ⟨hCE _ _ hC e, float_done hCE hsel pre l a _ w'.heap.size hv hB hK (wpPre_up h e) (hCE _ _ hC e) hb (heap_alloc_new w' _)⟩
  intro pre
  induction pre with
  | nil =>
    intro l a w hv hB hK h hC hb
    rw [show ([] : List Stp).length + 1 + nf = nf + 1 by rw [List.length_nil]; omega]
    intro w' hw'
    have hr : Region.ready md ops l = [i] := by simpa [floatB] using hB
    refine ⟨fun h0 => (by rw [hr] at h0; cases h0), fun j hj => ?_⟩
    rw [hr] at hj
    obtain rfl : j = i := by simpa using hj
    have := made [] l a w' hv hB hK (wpPre_up h hw') (hCE _ _ hC hw') (Nat.le_trans hb hw'.size)
    simpa using this
  | cons s pre ih =>
    obtain ⟨q, k, o⟩ := s
    intro l a w hv hB hK h hC hb
    have ho : ops[k]? = some o := hv ⟨q, k, o⟩ (by simp)
    have hB0 := hB
    have h0 := h
    cases q
    · simp only [floatB, Bool.false_eq_true, if_false, Bool.and_eq_true, decide_eq_true_eq] at hB
      obtain ⟨⟨⟨⟨⟨hall, hk⟩, hr⟩, hne⟩, hap⟩, hB'⟩ := hB
      simp only [wpPre, Bool.false_eq_true, if_false] at h
      rw [List.length_cons, show pre.length + 1 + 1 + nf = (pre.length + 1 + nf) + 1 by omega]
      intro w' hw'
      refine ⟨fun h0 => (by rw [h0] at hk; cases hk), fun j hj => ?_⟩
      have hjk : j = k ∨ j = i := by simpa using List.all_eq_true.1 hall j hj
      rcases hjk with rfl | rfl
      · refine wpOp_mono (fun a' w'' ⟨he, hp⟩ => ⟨hCE _ _ (hCE _ _ hC hw') he, ?_⟩) (wpOp_of_list (C := fun w'' => Ext w' w'') ho (h ⟨w', hw'⟩))
        exact ih (l.setIfInBounds j true) a' w'' (fun p hp => hv p (List.mem_cons_of_mem _ hp)) hB' hK hp (hCE _ _ (hCE _ _ hC hw') he) (Nat.le_trans hb (hw'.trans he).size)
      · exact made (⟨false, k, o⟩ :: pre) l a w' hv hB0 hK (wpPre_up h0 hw') (hCE _ _ hC hw') (Nat.le_trans hb hw'.size)
    · simp only [floatB, if_true, Bool.and_eq_true, decide_eq_true_eq] at hB
      obtain ⟨⟨⟨⟨⟨⟨hr, hf⟩, _⟩, _⟩, hne⟩, hap⟩, hB'⟩ := hB
      simp only [wpPre, if_true] at h
      obtain ⟨v, hy, hn⟩ := h
      rw [List.length_cons, show pre.length + 1 + 1 + nf = (pre.length + 1 + nf) + 1 by omega]
      exact wpAnyE_first hCE ho hsel _ _ _ w (Region.free_spec ho hf) (by simpa using hr) hy hC
        (ih (l.setIfInBounds k true) _ w (fun p hp => hv p (List.mem_cons_of_mem _ hp)) hB' hK hn hC hb)

/-- Those of a list that are left, with their numbers; the second mask says which of them are taken at once. -/
def restL : List Bool → List Bool → Nat → List Oper → List Stp
  | b :: m, c :: n, k, o :: l => if b then restL m n (k + 1) l else ⟨c, k, o⟩ :: restL m n (k + 1) l
  | _, _, _, _ => []

theorem restL_valid : ∀ (m c : List Bool) (k : Nat) (l : List Oper), (∀ j, j < l.length → l[j]? = ops[k + j]?) → ∀ p ∈ restL m c k l, ops[p.k]? = some p.o
  | [], _, _, _, _, p, hp => by simp [restL] at hp
  | _ :: _, [], _, _, _, p, hp => by simp [restL] at hp
  | _ :: _, _ :: _, _, [], _, p, hp => by simp [restL] at hp
  | b :: m, c :: n, k, o :: l, ho, p, hp => by
    have h0 : ops[k]? = some o := by simpa using (ho 0 (by simp)).symm
    have ho' : ∀ j, j < l.length → l[j]? = ops[k + 1 + j]? := fun j hj => by
      have := ho (j + 1) (by simp; omega)
      simpa [Nat.add_assoc, Nat.add_comm 1 j] using this
    cases b
    · simp only [restL, Bool.false_eq_true, if_false, List.mem_cons] at hp
      rcases hp with rfl | hp
      · exact h0
      · exact restL_valid m n (k + 1) l ho' p hp
    · simp only [restL, if_true] at hp
      exact restL_valid m n (k + 1) l ho' p hp

theorem restL_length : ∀ (m c : List Bool) (k : Nat) (l : List Oper), m.length = l.length → c.length = l.length → (pickT m l).length + (restL m c k l).length = l.length
  | [], [], _, [], _, _ => rfl
  | [], _, _, _ :: _, h, _ => by simp at h
  | _ :: _, _, _, [], h, _ => by simp at h
  | _, [], _, _ :: _, _, h => by simp at h
  | _, _ :: _, _, [], _, h => by simp at h
  | b :: m, c :: n, k, o :: l, h, h2 => by
    have := restL_length m n (k + 1) l (by simpa using h) (by simpa using h2)
    cases b <;> simp [pickT, restL] <;> omega

def seqL (md : Region.Mode) (ops : Array Oper) : List Stp → Array Bool → Bool
  | [], l => (Region.ready md ops l).isEmpty
  | s :: r, l => (if s.q then (Region.ready md ops l).contains s.k && Region.free md ops l s.k else decide (Region.ready md ops l = [s.k])) && seqL md ops r (l.setIfInBounds s.k true)

theorem post_of_seqL (hCE : ∀ w w', C w → Ext w w' → C w') (hsel : ∀ (j : Nat) (o : Oper) cs b, ops[j]? = some o → o.op ≠ .select cs b) : ∀ (r : List Stp) (l : Array Bool) (a : Act) (w : World), (∀ p ∈ r, ops[p.k]? = some p.o) → seqL md ops r l = true → C w →
    wpPost P ops C Q r a w → wpAnyE P md ops C Q r.length l a w
  | [], l, a, w, _, hB, _, h => ⟨by simpa [seqL] using hB, fun w' hw' => h ⟨w', hw'⟩⟩
  | ⟨false, k, o⟩ :: r, l, a, w, hv, hB, hC, h => by
    simp only [seqL, Bool.false_eq_true, if_false, Bool.and_eq_true, decide_eq_true_eq] at hB
    simp only [wpPost, Bool.false_eq_true, if_false] at h
    have ho : ops[k]? = some o := hv ⟨false, k, o⟩ (by simp)
    intro w' hw'
    refine ⟨fun h0 => (by rw [hB.1] at h0; cases h0), fun j hj => ?_⟩
    rw [hB.1] at hj
    obtain rfl : j = k := by simpa using hj
    exact wpOp_mono (fun a' w'' ⟨hc, hp⟩ => ⟨hc, post_of_seqL hCE hsel r _ a' w'' (fun p hp => hv p (List.mem_cons_of_mem _ hp)) hB.2 hc hp⟩) (wpOp_of_list ho (h ⟨w', hw'⟩))
  | ⟨true, k, o⟩ :: r, l, a, w, hv, hB, hC, h => by
    simp only [seqL, if_true, Bool.and_eq_true] at hB
    simp only [wpPost, if_true] at h
    obtain ⟨v, hy, hn⟩ := h
    have ho : ops[k]? = some o := hv ⟨true, k, o⟩ (by simp)
    exact wpAnyE_first hCE ho hsel _ _ _ w (Region.free_spec ho hB.1.2) (by simpa using hB.1.1) hy hC
      (post_of_seqL hCE hsel r _ _ w (fun p hp => hv p (List.mem_cons_of_mem _ hp)) hB.2 hC hn)

/-- The Bools of such a region: n0 of the rest stand ahead of the making. -/
def mixFB (ops : Array Oper) (m c : List Bool) (l : List Oper) (n n0 : Nat) : Bool :=
  Region.noSelect ops && decide (m.length = l.length) && decide (c.length = l.length) && dstsOk n (pickT m l) &&
    (match Region.lexMask .any ops m 0 (Array.replicate l.length false) with
     | some le => (match (restL m c 0 l).drop n0 with
       | ⟨_, i, oi⟩ :: post => oi.guard.isNone && floatB .any ops i oi ((restL m c 0 l).take n0) le && seqL .any ops post ((listAll ((restL m c 0 l).take n0) le).setIfInBounds i true)
       | [] => false)
     | none => false)

/-- What is asked of the rest: those ahead, the making, those behind. -/
def wpFloat (P : Program) (ops : Array Oper) (C : World → Prop) (B : Nat) (z : Array Value) (t : TypeId) (Q : Exit → Act → World → Prop) (n0 : Nat) (l : List Stp) (a : Act) (w : World) : Prop :=
  match l.drop n0 with
  | s :: post => (∀ (a : Act) (w : World), (execOp a.eval s.o).run P w = .ok (.value (.pointer (some ⟨w.heap.size, 0, none⟩))) (w.alloc (.cells z t))) ∧ wpPre P ops C B z t s.o.dst (wpPost P ops C Q post) Q (l.take n0) a w
  | [] => False

/-- A REGION THAT DRAWS ITS ORDER AND MAKES A VARIABLE. -/
theorem wp_region_mixF {id : Nat} {a af : Act} {w : World} {l : List Oper} (z : Array Value) (t : TypeId) (m c : List Bool) (n n0 : Nat) (hm : P.follows .mixedOrders = true)
    (hn : a.tmps.size = n) (hB : mixFB l.toArray m c l n n0 = true) (hCE : ∀ w w', C w → Ext w w' → C w') (hC : C w.drew)
    (h : ∀ w', C w' → wpQuiet P l.toArray (fun w'' => ∃ x : ExtOf w', w'' = x.val) (fun a' => a' = af) (pickT m l) a)
    (hr : wpFloat P l.toArray C w.heap.size z t Q n0 (restL m c 0 l) af w.drew) : (Code.region id l.toArray true).wp P Q a w := by
  subst hn
  simp only [mixFB, Bool.and_eq_true, decide_eq_true_eq] at hB
  obtain ⟨⟨⟨⟨hs, hl⟩, hcl⟩, hd⟩, hx⟩ := hB
  split at hx
  case h_2 => cases hx
  case h_1 le hle =>
    unfold wpFloat at hr
    split at hx
    case h_2 => cases hx
    case h_1 q i oi post hdrop =>
      simp only [Bool.and_eq_true] at hx
      obtain ⟨⟨hg, hf⟩, hsq⟩ := hx
      have hsel := Region.noSelect_spec hs
      have hv := restL_valid (ops := l.toArray) m c 0 l (fun j _ => by simp)
      have hvp : ∀ p ∈ post, l.toArray[p.k]? = some p.o := fun p hp => hv p (List.mem_of_mem_drop (by rw [hdrop]; exact List.mem_cons_of_mem _ hp))
      have hvi : l.toArray[i]? = some oi := hv ⟨q, i, oi⟩ (List.mem_of_mem_drop (by rw [hdrop]; simp))
      have hvt : ∀ p ∈ (restL m c 0 l).take n0, l.toArray[p.k]? = some p.o := fun p hp => hv p (List.mem_of_mem_take hp)
      rw [hdrop] at hr
      obtain ⟨hal, hpre⟩ := hr
      have hq := walkE_of_quiet (P := P) (ops := l.toArray) (C := C) ⟨_, hC⟩ (pickT m l) a hd h
      have hmain := float_main (P := P) (md := .any) (ops := l.toArray) (C := C) (Q := Q) (K := wpPost P l.toArray C Q post) (nf := post.length) hCE hsel hvi (by simpa using hg) hal
        ((restL m c 0 l).take n0) le af w.drew hvt hf (fun a w hc hk => post_of_seqL hCE hsel post _ a w hvp hsq hc hk) hpre hC (Nat.le_refl _)
      have := wpAnyE_lex (P := P) (md := .any) (ops := l.toArray) (Q := Q) hCE hs m l 0 _ a w.drew hl (fun j _ => by simp) hle hq hC hmain
      have hlen : (pickT m l).length + (((restL m c 0 l).take n0).length + 1 + post.length) = l.length := by
        have h1 := restL_length m c 0 l hl hcl
        have h3 : ((restL m c 0 l).take n0).length + ((restL m c 0 l).drop n0).length = (restL m c 0 l).length := by rw [← List.length_append, List.take_append_drop]
        rw [hdrop] at h3
        simp only [List.length_cons] at h3
        omega
      rw [hlen] at this
      refine Code.wp_mono quiets_imp (wp_region_any hm ?_)
      have h2 := wpAny_of_E _ _ _ _ this
      simpa using h2

/-- The same without a making. -/
theorem wp_region_mixQ {id : Nat} {a af : Act} {w : World} {l : List Oper} (m c : List Bool) (n : Nat) (hm : P.follows .mixedOrders = true)
    (hn : a.tmps.size = n) (hB : (Region.noSelect l.toArray && decide (m.length = l.length) && decide (c.length = l.length) && dstsOk n (pickT m l) &&
      (match Region.lexMask .any l.toArray m 0 (Array.replicate l.length false) with | some le => seqL .any l.toArray (restL m c 0 l) le | none => false)) = true) (hCE : ∀ w w', C w → Ext w w' → C w') (hC : C w.drew)
    (h : ∀ w', C w' → wpQuiet P l.toArray (fun w'' => ∃ x : ExtOf w', w'' = x.val) (fun a' => a' = af) (pickT m l) a)
    (hr : wpPost P l.toArray C Q (restL m c 0 l) af w.drew) : (Code.region id l.toArray true).wp P Q a w := by
  subst hn
  simp only [Bool.and_eq_true, decide_eq_true_eq] at hB
  obtain ⟨⟨⟨⟨hs, hl⟩, hcl⟩, hd⟩, hx⟩ := hB
  split at hx
  case h_2 => cases hx
  case h_1 le hle =>
    have hv := restL_valid (ops := l.toArray) m c 0 l (fun j _ => by simp)
    have hq := walkE_of_quiet (P := P) (ops := l.toArray) (C := C) ⟨_, hC⟩ (pickT m l) a hd h
    have := wpAnyE_lex (P := P) (md := .any) (ops := l.toArray) (Q := Q) hCE hs m l 0 _ a w.drew hl (fun j _ => by simp) hle hq hC (post_of_seqL hCE (Region.noSelect_spec hs) _ _ _ _ hv hx hC hr)
    rw [restL_length m c 0 l hl hcl] at this
    refine Code.wp_mono quiets_imp (wp_region_any hm ?_)
    have h2 := wpAny_of_E _ _ _ _ this
    simpa using h2
end
end Go.Proofs.Ytfibbhmmiemcoaa

/-
  Quick steps of a script, taken in one walk. No condition.
-/
namespace Go.Proofs.Ytfibbhmmiemcoaa
open Go.RowKit
section
variable {P : Program} {ops : Array Oper} {C : World → Prop} {Q : Exit → Act → World → Prop}
theorem post_walk {af : Act} {w : World} {r : List Stp} : ∀ (qs : List Stp) (a : Act), qs.all (·.q) = true → walkE P ops C af (qs.map (·.o)) a → wpPost P ops C Q r af w → wpPost P ops C Q (qs ++ r) a w
  | [], a, _, h, hr => by
    have h : a = af := h
    rw [h]; exact hr
  | s :: qs, a, hq, h, hr => by
    simp only [List.all_cons, Bool.and_eq_true] at hq
    obtain ⟨v, hy, hn⟩ := h
    rw [List.cons_append]
    unfold wpPost
    rw [if_pos hq.1]
    exact ⟨v, hy, post_walk qs _ hq.2 hn hr⟩

theorem post_quiet {a af : Act} {w : World} {l : List Stp} (k n : Nat) (hq : (l.take k).all (·.q) = true) (hn : a.tmps.size = n) (hd : dstsOk n ((l.take k).map (·.o)) = true) (hne : ∃ w, C w)
    (h : ∀ w', C w' → wpQuiet P ops (fun w'' => ∃ x : ExtOf w', w'' = x.val) (fun a' => a' = af) ((l.take k).map (·.o)) a) (hr : wpPost P ops C Q (l.drop k) af w) : wpPost P ops C Q l a w := by
  subst hn
  have := post_walk (Q := Q) (w := w) (r := l.drop k) (l.take k) a hq (walkE_of_quiet hne _ a hd h) hr
  rwa [List.take_append_drop] at this
end
/-- append to a row of the call's own (in a block from B on), of any slice of that type. -/
theorem wpList_app4 {P : Program} {ops : Array Oper} {rest : List Oper} {o : Oper} {a : Act} {Q : Exit → Act → World → Prop} {w : World} (B : Nat) (t e : TypeId) (i : TypeInfo) (z : Value) (size bytes : Nat)
    (ht : P.underlying t = some (.slice e)) (hi : P.info? e = some i) (hz : i.zero = some z) (hsize : i.size = size) (hby : i.bytes = bytes) (hzs : z.cells.size = size) (hsz : 0 < size)
    (hgd : o.guard = none) (s x : Operand) (ho : o.op = .call { callee := .builtin .append, args := #[s, x], argTypes := #[t, t] })
    (v : Value) (n : Nat) (xs : List Value) (hs : a.eval s = v) (hown : w.ownsRow B e size v n xs) (hB : B ≤ w.heap.size)
    (v2 : Value) (m : Nat) (news : List Value) (hx : a.eval x = v2) (hrow : Row w size v2 m news) (hnil : v2 = .slice none 0 0 ∨ ∃ a n c, v2 = .slice (some a) n c) (h1 : ∀ u ∈ news, u.oneCell' = true)
    (h63 : n + m ≤ maxLen) (hbytes : (n + m) * bytes ≤ 140737488355328)
    (h : ∀ v' w', w'.ownsRow B e size v' (n + m) (xs ++ news) → Below B w w' → w.grownBy w' v.ownBlock → wpList P ops Q rest (a.put o.dst v') w') : wpList P ops Q (o :: rest) a w := by
  rcases hnil with hnil | ⟨ad, n', c', hnil⟩
  · have hm0 : m = 0 := by
      rcases hrow.2 with ⟨h0, _⟩ | ⟨g, off, cap, hv, _⟩
      · exact h0
      · rw [hnil] at hv; cases hv
    subst hm0
    have hnews : news = [] := List.length_eq_zero_iff.1 (by simpa using hrow.1)
    subst hnews
    refine wpList_append_own_none hgd s x t ho B e i size ht hi v n xs hs hown (by rw [hx, hnil]) (h v w (by simpa using hown) (Below.refl _ _) ⟨rfl, rfl, rfl, Nat.le_refl _, fun _ _ _ => rfl⟩)
  · have key : v2 = .slice (some ad) m c' ∧ ∀ j u, news[j]? = some u → w.cell? (ad.add j) = some u := by
      rcases hrow.2 with ⟨h0, a', c2, hv⟩ | ⟨g, off, cap, hv, _, hc⟩
      · rw [hnil] at hv
        simp only [Value.slice.injEq] at hv
        refine ⟨by rw [hnil, hv.2.1, h0], fun j u hj => ?_⟩
        have : news = [] := List.length_eq_zero_iff.1 (by rw [hrow.1, h0, Nat.zero_mul])
        rw [this] at hj; simp at hj
      · rw [hnil] at hv
        simp only [Value.slice.injEq, Option.some.injEq] at hv
        refine ⟨by rw [hnil, hv.2.1], fun j u hj => ?_⟩
        rw [hv.1]
        have : (⟨g, off, none⟩ : Addr).add j = ⟨g, off + j, none⟩ := by unfold Addr.add; split <;> simp_all
        rw [this]; exact hc j u hj
    exact wpList_append_own w hgd s x t ho B e i z size bytes ht hi hz hsize hby hzs hsz v n xs hs hown ad m c' news (by rw [hx, key.1]) hrow.1 key.2 h1 h63 hbytes hB
      fun v' w' k1 k2 _ => h v' w' k1 (Below.grown (Below.refl _ _) k2 hB fun k hk => (hown.lt k hk).1) k2
end Go.Proofs.Ytfibbhmmiemcoaa

/-
  Letters in rows; two verdicts against each other. No condition.
-/
namespace Go.Proofs.Ytfibbhmmiemcoaa
open Go.RowKit

theorem cell_keep {w w' : World} {a : Addr} {v : Value} (h : w.cell? a = some v) (e : Ext w w') : w'.cell? a = some v := by
  rw [Below.cell e (World.block_lt_of_cell? w _ h)]; exact h

/-- Where a slice that is read lies. -/
theorem row_view {w : World} {size : Nat} {v : Value} {n : Nat} {xs : List Value} (h : Row w size v n xs) :
    ∃ a cap, v = .slice a n cap ∧ n ≤ maxLen ∧ (0 < n → ∃ g off, a = some ⟨g, off, none⟩ ∧ (0 < size → g < w.heap.size) ∧ ∀ j u, xs[j]? = some u → w.cell? ⟨g, off + j, none⟩ = some u) := by
  obtain ⟨hl, h0⟩ := h
  rcases h0 with ⟨hn, a, c, hv⟩ | ⟨g, off, cap, hv, hm, hc⟩
  · exact ⟨a, c, by rw [hv, hn], by omega, fun h => by omega⟩
  · refine ⟨_, cap, hv, hm, fun hn => ⟨g, off, rfl, fun hs => ?_, hc⟩⟩
    have h0 : 0 < xs.length := by rw [hl]; exact Nat.mul_pos hn hs
    have := hc 0 _ (List.getElem?_eq_getElem h0)
    exact World.block_lt_of_cell? w _ this

theorem lt_cellsO {w : World} {g off : Nat} {L : List Lt} {k : Nat} {x : Lt} (h : ∀ j u, (L.flatMap Lt.cs)[j]? = some u → w.cell? ⟨g, off + j, none⟩ = some u) (hx : L[k]? = some x) :
    w.cell? ⟨g, off + k * 5, none⟩ = some (.int .i64 x.k) ∧ w.cell? ⟨g, off + k * 5 + 1, none⟩ = some (.int .i64 x.f) ∧ w.cell? ⟨g, off + k * 5 + 2, none⟩ = some (.int .u64 x.c) ∧ w.cell? ⟨g, off + k * 5 + 3, none⟩ = some (.string x.t) ∧ w.cell? ⟨g, off + k * 5 + 4, none⟩ = some (.bool x.b) := by
  have key := fun j hj => flat_get Lt.cs 5 (fun _ => rfl) L k x hx j hj
  refine ⟨h _ _ (key 0 (by omega)), ?_, ?_, ?_, ?_⟩
  · rw [Nat.add_assoc]; exact h _ _ (key 1 (by omega))
  · rw [Nat.add_assoc]; exact h _ _ (key 2 (by omega))
  · rw [Nat.add_assoc]; exact h _ _ (key 3 (by omega))
  · rw [Nat.add_assoc]; exact h _ _ (key 4 (by omega))

def vEq (c k : Int) (t : ByteArray) (c' k' : Int) (t' : ByteArray) : Bool := decide (c = c' ∧ k = k' ∧ t = t')
theorem vEq_vd (a b : Vd) : vEq a.c a.k a.t b.c b.k b.t = decide (a = b) := by cases a; cases b; simp [vEq]
theorem eql_vEq (c k : Int) (t : ByteArray) (c' k' : Int) (t' : ByteArray) (w : World) : (binOp .eql 29 (.agg #[.int .u64 c, .int .i64 k, .string t]) (.agg #[.int .u64 c', .int .i64 k', .string t'])).run Try.prog w = .ok (.bool (vEq c k t c' k' t')) w := by
  simp [go_sem, toList_beq, vEq]
  by_cases h_c : c = c'
  case neg => simp [h_c]
  by_cases h_k : k = k'
  case neg => simp [h_k]
  by_cases h_t : t = t'
  case neg => simp [h_t]
  simp [h_c, h_k, h_t]
theorem neq_vEq (c k : Int) (t : ByteArray) (c' k' : Int) (t' : ByteArray) (w : World) : (binOp .neq 29 (.agg #[.int .u64 c, .int .i64 k, .string t]) (.agg #[.int .u64 c', .int .i64 k', .string t'])).run Try.prog w = .ok (.bool (!(vEq c k t c' k' t'))) w := by
  simp [go_sem, toList_beq, vEq]
  by_cases h_c : c = c'
  case neg => simp [h_c]
  by_cases h_k : k = k'
  case neg => simp [h_k]
  by_cases h_t : t = t'
  case neg => simp [h_t]
  simp [h_c, h_k, h_t]

theorem eql_nil (a : Option Addr) (l c : Nat) (w : World) : (binOp .eql 31 (.slice a l c) (.slice none 0 0)).run Try.prog w = .ok (.bool a.isNone) w := by
  simp only [binOp]
  simp [run_equal_slice_nil w 31 24 a l c Try.underlying31]

/-- A goal that the walk leaves. -/
def Hd2 (p : Prop) : Prop := p
theorem unHd {p : Prop} (h : Hd2 p) : p := h

/-- The number of a letter in a list; -1: it is not there. -/
theorem mem_of_get {L : List Lt} {k : Nat} {x : Lt} (h : L[k]? = some x) : x ∈ L := List.mem_of_getElem? h
theorem not_mem_of_all {L : List Lt} {l : Lt} (h : ∀ (j : Nat) z, L[j]? = some z → z ≠ l) : l ∉ L := fun hm => by
  obtain ⟨j, hj⟩ := List.getElem?_of_mem hm
  exact h j l hj rfl
end Go.Proofs.Ytfibbhmmiemcoaa
