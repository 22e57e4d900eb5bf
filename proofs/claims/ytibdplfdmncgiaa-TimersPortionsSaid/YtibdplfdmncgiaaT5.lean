/-
  Maps with numbers for keys in memory: what a lookup, a store, a deletion do. No condition.
-/
import Derived.Test.YtibdplfdmncgiaaT2
set_option linter.all false
namespace Go.Proofs.Ytibdplfdmncgiaa
open Go.RowKit

/-- A timer that is set: its number, its tick, its place, its value. -/
structure Tm where
  id : Int
  a : Int
  o : Int
  v : Int
  deriving DecidableEq
def Tm.val (t : Tm) : Value := .agg #[.int .i64 t.a, .int .i64 t.o, .int .i64 t.v]

/-- Block b is a map that holds these timers. -/
def MapW (b : Nat) (S : List Tm) (w : World) : Prop := ∃ es clock, w.heap[b]? = some (.map es clock) ∧ es.toList.map (fun e => (e.key, e.val)) = S.map (fun t => (Value.int .i64 t.id, t.val))

theorem MapW.same {b : Nat} {S : List Tm} {w w' : World} (h : MapW b S w) (e : w'.heap[b]? = w.heap[b]?) : MapW b S w' := by
  obtain ⟨es, clock, h1, h2⟩ := h
  exact ⟨es, clock, e.trans h1, h2⟩
theorem MapW.ext {b : Nat} {S : List Tm} {w w' : World} (h : MapW b S w) (e : Ext w w') : MapW b S w' := by
  obtain ⟨es, clock, h1, h2⟩ := h
  exact ⟨es, clock, heap_ext h1 e, h2⟩
theorem MapW.lt {b : Nat} {S : List Tm} {w : World} (h : MapW b S w) : b < w.heap.size := by
  obtain ⟨es, clock, h1, _⟩ := h
  exact (Array.getElem?_eq_some_iff.1 h1).1

def getT (S : List Tm) (k : Int) : Option Tm := S.find? fun t => t.id == k
def dropT (S : List Tm) (k : Int) : List Tm := match S.findIdx? (fun t => t.id == k) with
  | some j => S.eraseIdx j
  | none => S
def putT (S : List Tm) (t : Tm) : List Tm := match S.findIdx? (fun u => u.id == t.id) with
  | some j => S.set j t
  | none => S ++ [t]

def lookV (S : List Tm) (k : Int) : Bool → Value
  | true => match getT S k with
    | some t => .tuple #[t.val, .bool true]
    | none => .tuple #[.agg #[.int .i64 0, .int .i64 0, .int .i64 0], .bool false]
  | false => match getT S k with
    | some t => t.val
    | none => .agg #[.int .i64 0, .int .i64 0, .int .i64 0]

section
variable {P : Program} {w : World}

theorem findNow_ok {q : IntKind} {k : Int} : ∀ {l : List MapEntry} {S : List Tm} (i : Nat), l.map (fun e => (e.key, e.val)) = S.map (fun t => (Value.int .i64 t.id, t.val)) →
    Instr.findNow (.int q) (.int .i64 k) l i = some ((S.findIdx? (fun t => t.id == k)).bind fun j => (S[j]?).map fun t => (i + j, t.val))
  | [], [], _, _ => rfl
  | [], _ :: _, _, h => by simp at h
  | _ :: _, [], _, h => by simp at h
  | e :: l, t :: S, i, h => by
    simp only [List.map_cons, List.cons.injEq, Prod.mk.injEq] at h
    obtain ⟨⟨h1, h2⟩, h3⟩ := h
    unfold Instr.findNow
    rw [h1, h2]
    simp only [Instr.sameNow, if_true]
    rw [List.findIdx?_cons]
    by_cases hk : k = t.id
    · subst hk
      simp
    · have hk' : (k == t.id) = false := by simpa using hk
      have hk2 : (t.id == k) = false := by simpa using fun e => hk e.symm
      rw [hk', hk2]
      simp only [Bool.false_eq_true, if_false]
      rw [findNow_ok (i + 1) h3]
      congr 1
      cases S.findIdx? (fun t => t.id == k) with
      | none => rfl
      | some j => simp [Nat.add_assoc, Nat.add_comm 1 j]

theorem find_of_idx (S : List Tm) (k : Int) : ((S.findIdx? (fun t => t.id == k)).bind fun j => S[j]?) = getT S k := by
  unfold getT
  induction S with
  | nil => rfl
  | cons t S ih =>
    rw [List.findIdx?_cons, List.find?_cons]
    cases h : (t.id == k) with
    | true => simp
    | false =>
      simp only [Bool.false_eq_true, if_false]
      rw [← ih]
      cases S.findIdx? (fun t => t.id == k) with
      | none => rfl
      | some j => rfl

theorem run_findKey {kt : TypeId} {q : IntKind} (hk : P.underlying kt = some (.int q)) {k : Int} {l : List MapEntry} {S : List Tm} (h : l.map (fun e => (e.key, e.val)) = S.map (fun t => (Value.int .i64 t.id, t.val))) :
    (Instr.findKey kt (.int .i64 k) l).run P w = .ok ((S.findIdx? (fun t => t.id == k)).bind fun j => (S[j]?).map fun t => (j, t.val)) w := by
  simp only [Instr.findKey, Sem.run_bind, run_underlying hk w, Result.andThen_ok, findNow_ok 0 h, Nat.zero_add]
  rfl

theorem run_check {kt : TypeId} {q : IntKind} (hk : P.underlying kt = some (.int q)) (k : Int) (b : Bool) : (Instr.checkKey b 10000 kt (.int .i64 k)).run P w = .ok () w := by
  unfold Instr.checkKey
  simp only [Sem.run_bind, run_underlying hk w, Result.andThen_ok]
  rfl

/-- Block r is another one. -/
def setB (w : World) (r : Nat) (ob : Obj) : World := { w with heap := w.heap.setIfInBounds r ob }
theorem setB_same {r : Nat} {ob : Obj} (h : r < w.heap.size) : (setB w r ob).heap[r]? = some ob := by simp [setB, h]
theorem setB_other {r k : Nat} {ob : Obj} (h : k ≠ r) : (setB w r ob).heap[k]? = w.heap[k]? := by simp [setB, Array.getElem?_setIfInBounds_ne (Ne.symm h)]
theorem Keeps.setB {X : List Nat} {a b : World} (h : Keeps X a b) {g : Nat} (hg : g ∈ X ∨ a.heap.size ≤ g) (ob : Obj) : Keeps X a (setB b g ob) := by
  refine ⟨h.os, h.tape, h.output, by simpa [Go.Proofs.Ytibdplfdmncgiaa.setB] using h.size, fun i hi hx => ?_⟩
  refine (setB_other ?_).trans (h.block i hi hx)
  rcases hg with hg | hg
  · rintro rfl; exact hx hg
  · omega

theorem run_getMap {r : Nat} {arr : Array MapEntry} {clock : Nat} (h : w.heap[r]? = some (.map arr clock)) : (getObj r).run P w = .ok (.map arr clock) w := by
  simp [getObj, Sem.run, h]
theorem run_setMap {r : Nat} {arr arr' : Array MapEntry} {clock clock' : Nat} (h : w.heap[r]? = some (.map arr clock)) : (Go.setObj r (.map arr' clock')).run P w = .ok () (setB w r (.map arr' clock')) := by
  simp [Go.setObj, Sem.run, h, setB]

theorem run_lookup {T kt et : TypeId} {q : IntKind} (hT : P.underlying T = some (.map kt et)) (hk : P.underlying kt = some (.int q)) (hz : ∀ w, (zeroValue et).run P w = .ok (.agg #[.int .i64 0, .int .i64 0, .int .i64 0]) w) {b : Nat} {S : List Tm} (hM : MapW b S w) (k : Int) (ok : Bool) :
    (Instr.lookup T (.map (some b)) (.int .i64 k) ok).run P w = .ok (lookV S k ok) w := by
  obtain ⟨es, clock, h1, h2⟩ := hM
  have hf := run_findKey (w := w) (k := k) hk h2
  have hg := find_of_idx S k
  simp only [Instr.lookup, Sem.run_bind, run_underlying hT w, Result.andThen_ok, run_getMap h1, Sem.run_pure, run_check hk, hf]
  cases hi : S.findIdx? (fun t => t.id == k) with
  | none =>
    rw [hi] at hg
    simp only [Option.bind_none] at hg ⊢
    simp only [Sem.run_bind, hz, Result.andThen_ok, Sem.run_pure]
    cases ok <;> simp [lookV, ← hg]
  | some j =>
    rw [hi] at hg
    simp only [Option.bind_some] at hg ⊢
    cases hj : S[j]? with
    | none =>
      obtain ⟨hlt, _⟩ := List.findIdx?_eq_some_iff_getElem.1 hi
      rw [List.getElem?_eq_getElem hlt] at hj
      cases hj
    | some t =>
      rw [hj] at hg
      simp only [Option.map_some, Sem.run_pure, Result.andThen_ok]
      cases ok <;> simp [lookV, ← hg]

theorem map_erase {α β : Type} (f : α → β) : ∀ (l : List α) (j : Nat), (l.eraseIdx j).map f = (l.map f).eraseIdx j
  | [], _ => rfl
  | _ :: _, 0 => rfl
  | x :: l, j + 1 => by simp [map_erase f l j]

theorem idx_spec {S : List Tm} {k : Int} {j : Nat} (hi : S.findIdx? (fun t => t.id == k) = some j) : ∃ t, S[j]? = some t ∧ t.id = k := by
  obtain ⟨hlt, h, _⟩ := List.findIdx?_eq_some_iff_getElem.1 hi
  exact ⟨_, List.getElem?_eq_getElem hlt, by simpa using h⟩

theorem run_update {T kt et : TypeId} {q : IntKind} (hT : P.underlying T = some (.map kt et)) (hk : P.underlying kt = some (.int q)) {b : Nat} {S : List Tm} (hM : MapW b S w) (t : Tm) :
    ∃ ob, (Instr.mapUpdate T (.map (some b)) (.int .i64 t.id) t.val).run P w = .ok () (setB w b ob) ∧ MapW b (putT S t) (setB w b ob) := by
  have hlt := hM.lt
  obtain ⟨es, clock, h1, h2⟩ := hM
  have hf := run_findKey (w := w) (k := t.id) hk h2
  cases hi : S.findIdx? (fun u => u.id == t.id) with
  | none =>
    rw [hi] at hf
    simp only [Option.bind_none] at hf
    refine ⟨.map (es.push { key := .int .i64 t.id, val := t.val, born := clock }) (clock + 1), ?_, ⟨_, _, setB_same hlt, ?_⟩⟩
    · simp only [Instr.mapUpdate, Sem.run_bind, run_underlying hT w, Result.andThen_ok, run_getMap h1, run_check hk, hf, run_setMap h1]
    · simp [putT, hi, h2]
  | some j =>
    obtain ⟨u, hu, hid⟩ := idx_spec hi
    rw [hi] at hf
    simp only [Option.bind_some, hu, Option.map_some] at hf
    have hjl : j < es.size := by
      have := congrArg List.length h2
      simp only [List.length_map, Array.length_toList] at this
      rw [this]; exact (List.getElem?_eq_some_iff.1 hu).1
    have hkey : (es[j]?).map (·.key) = some (.int .i64 t.id) := by
      have h3 := congrArg (fun l => (l[j]?).map Prod.fst) h2
      simp only [List.getElem?_map, hu, Option.map_some, Array.getElem?_toList, hid] at h3
      rw [← h3]
      cases es[j]? <;> rfl
    refine ⟨.map (es.modify j fun e => { e with key := .int .i64 t.id, val := t.val }) clock, ?_, ⟨_, _, setB_same hlt, ?_⟩⟩
    · have hst : (Instr.keyThatStays (.int .i64 t.id) (.int .i64 t.id)).run P w = .ok (.int .i64 t.id) w := by
        unfold Instr.keyThatStays
        rw [if_pos (by simp [Instr.sameBits])]
        rfl
      simp only [Instr.mapUpdate, Sem.run_bind, run_underlying hT w, Result.andThen_ok, run_getMap h1, run_check hk, hf, hkey, Option.getD_some, hst, run_setMap h1]
    · simp only [putT, hi]
      rw [List.map_set, ← h2]
      refine List.ext_getElem? fun m => ?_
      simp only [List.getElem?_map, Array.getElem?_toList, Array.getElem?_modify, List.getElem?_set, List.length_map, Array.length_toList]
      by_cases hjm : j = m
      · subst hjm
        simp [hjl]
      · simp [hjm]

theorem run_delete {T kt et ty : TypeId} {q : IntKind} {ts : Array TypeId} (hts : ts[0]? = some T) (hT : P.underlying T = some (.map kt et)) (hk : P.underlying kt = some (.int q)) {b : Nat} {S : List Tm} (hM : MapW b S w) (k : Int) :
    ∃ ob, (Builtin.delete_ ts ty #[.map (some b), .int .i64 k]).run P w = .ok (.tuple #[]) (setB w b ob) ∧ MapW b (dropT S k) (setB w b ob) := by
  have hlt := hM.lt
  obtain ⟨es, clock, h1, h2⟩ := hM
  have hf := run_findKey (w := w) (k := k) hk h2
  cases hi : S.findIdx? (fun u => u.id == k) with
  | none =>
    rw [hi] at hf
    simp only [Option.bind_none] at hf
    refine ⟨.map es clock, ?_, ⟨_, _, setB_same hlt, ?_⟩⟩
    · simp [Builtin.delete_, hts, run_underlying hT, run_getMap h1, run_check hk, hf, run_setMap h1]
    · simp [dropT, hi, h2]
  | some j =>
    obtain ⟨u, hu, hid⟩ := idx_spec hi
    rw [hi] at hf
    simp only [Option.bind_some, hu, Option.map_some] at hf
    have hjl : j < es.size := by
      have := congrArg List.length h2
      simp only [List.length_map, Array.length_toList] at this
      rw [this]; exact (List.getElem?_eq_some_iff.1 hu).1
    refine ⟨.map (es.eraseIdxIfInBounds j) clock, ?_, ⟨_, _, setB_same hlt, ?_⟩⟩
    · simp [Builtin.delete_, hts, run_underlying hT, run_getMap h1, run_check hk, hf, run_setMap h1]
    · simp only [dropT, hi]
      rw [Array.eraseIdxIfInBounds, dif_pos hjl, Array.toList_eraseIdx, map_erase, h2, map_erase]

theorem run_lenMap {T kt et ty : TypeId} {ts : Array TypeId} (hts : ts[0]? = some T) (hT : P.underlying T = some (.map kt et)) {b : Nat} {S : List Tm} (hM : MapW b S w) :
    (Builtin.len_ ts ty #[.map (some b)]).run P w = .ok (.int .i64 S.length) w := by
  obtain ⟨es, clock, h1, h2⟩ := hM
  have := congrArg List.length h2
  simp only [List.length_map, Array.length_toList] at this
  simp [Builtin.len_, hts, run_underlying hT, run_getMap h1, this, goInt]
end
end Go.Proofs.Ytibdplfdmncgiaa
