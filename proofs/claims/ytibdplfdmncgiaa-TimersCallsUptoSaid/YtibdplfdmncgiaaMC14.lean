/-
  Maps with numbers for keys in memory: what a lookup, a store, a deletion do. No condition.
-/
import Derived.Test.YtibdplfdmncgiaaMC13
import Derived.StillTailTactics
import Derived.Deep.LoopGhost
set_option linter.all false
namespace Go.Proofs.Ytibdplfdmncgiaa
open Go.RowKit

/-- A timer that is set: its number, its tick, its place, its value. -/
structure Tm where
  id : Int
  a : Int
  o : Int
  v : ByteArray
  deriving DecidableEq
def Tm.val (t : Tm) : Value := .agg #[.int .i64 t.a, .int .i64 t.o, .string t.v]

/-- When a map's entries were laid: ahead of its clock, no two at one time. -/
def Born (B : List Nat) (clock : Nat) : Prop := (∀ n ∈ B, n < clock) ∧ B.Nodup
theorem born0 : Born [] 0 := ⟨fun n h => (by cases h), List.Pairwise.nil⟩
theorem born_push {B : List Nat} {c : Nat} (h : Born B c) : Born (B ++ [c]) (c + 1) := by
  refine ⟨fun n hn => ?_, ?_⟩
  · rcases List.mem_append.1 hn with hn | hn
    · have := h.1 n hn; omega
    · rw [List.mem_singleton.1 hn]; omega
  · rw [List.nodup_append]
    refine ⟨h.2, by simp, fun a ha b hb hab => ?_⟩
    have := h.1 a ha
    rw [List.mem_singleton.1 hb] at hab
    omega
theorem born_erase {B : List Nat} {c : Nat} (h : Born B c) (j : Nat) : Born (B.eraseIdx j) c := ⟨fun n hn => h.1 n (List.mem_of_mem_eraseIdx hn), h.2.sublist (List.eraseIdx_sublist _ _)⟩

/-- Block b is a map that holds these timers. -/
def MapW (b : Nat) (S : List Tm) (w : World) : Prop := ∃ es clock, w.heap[b]? = some (.map es clock) ∧ es.toList.map (fun e => (e.key, e.val)) = S.map (fun t => (Value.int .i64 t.id, t.val)) ∧ Born (es.toList.map (·.born)) clock

theorem MapW.same {b : Nat} {S : List Tm} {w w' : World} (h : MapW b S w) (e : w'.heap[b]? = w.heap[b]?) : MapW b S w' := by
  obtain ⟨es, clock, h1, h2⟩ := h
  exact ⟨es, clock, e.trans h1, h2⟩
theorem MapW.ext {b : Nat} {S : List Tm} {w w' : World} (h : MapW b S w) (e : Ext w w') : MapW b S w' := by
  obtain ⟨es, clock, h1, h2⟩ := h
  exact ⟨es, clock, heap_ext h1 e, h2⟩
theorem MapW.lt {b : Nat} {S : List Tm} {w : World} (h : MapW b S w) : b < w.heap.size := by
  obtain ⟨es, clock, h1, _⟩ := h
  exact (Array.getElem?_eq_some_iff.1 h1).1

def getT (S : List Tm) (k : Int) : Option Tm := S.find? fun t => t.id == k
def dropT (S : List Tm) (k : Int) : List Tm := match S.findIdx? (fun t => t.id == k) with
  | some j => S.eraseIdx j
  | none => S
def putT (S : List Tm) (t : Tm) : List Tm := match S.findIdx? (fun u => u.id == t.id) with
  | some j => S.set j t
  | none => S ++ [t]

def lookV (S : List Tm) (k : Int) : Bool → Value
  | true => match getT S k with
    | some t => .tuple #[t.val, .bool true]
    | none => .tuple #[.agg #[.int .i64 0, .int .i64 0, .string { data := #[] }], .bool false]
  | false => match getT S k with
    | some t => t.val
    | none => .agg #[.int .i64 0, .int .i64 0, .string { data := #[] }]

section
variable {P : Program} {w : World}

theorem findNow_ok {q : IntKind} {k : Int} : ∀ {l : List MapEntry} {S : List Tm} (i : Nat), l.map (fun e => (e.key, e.val)) = S.map (fun t => (Value.int .i64 t.id, t.val)) →
    Instr.findNow (.int q) (.int .i64 k) l i = some ((S.findIdx? (fun t => t.id == k)).bind fun j => (S[j]?).map fun t => (i + j, t.val))
  | [], [], _, _ => rfl
  | [], _ :: _, _, h => by simp at h
  | _ :: _, [], _, h => by simp at h
  | e :: l, t :: S, i, h => by
    simp only [List.map_cons, List.cons.injEq, Prod.mk.injEq] at h
    obtain ⟨⟨h1, h2⟩, h3⟩ := h
    unfold Instr.findNow
    rw [h1, h2]
    simp only [Instr.sameNow, if_true]
    rw [List.findIdx?_cons]
    by_cases hk : k = t.id
    · subst hk
      simp
    · have hk' : (k == t.id) = false := by simpa using hk
      have hk2 : (t.id == k) = false := by simpa using fun e => hk e.symm
      rw [hk', hk2]
      simp only [Bool.false_eq_true, if_false]
      rw [findNow_ok (i + 1) h3]
      congr 1
      cases S.findIdx? (fun t => t.id == k) with
      | none => rfl
      | some j => simp [Nat.add_assoc, Nat.add_comm 1 j]

theorem find_of_idx (S : List Tm) (k : Int) : ((S.findIdx? (fun t => t.id == k)).bind fun j => S[j]?) = getT S k := by
  unfold getT
  induction S with
  | nil => rfl
  | cons t S ih =>
    rw [List.findIdx?_cons, List.find?_cons]
    cases h : (t.id == k) with
    | true => simp
    | false =>
      simp only [Bool.false_eq_true, if_false]
      rw [← ih]
      cases S.findIdx? (fun t => t.id == k) with
      | none => rfl
      | some j => rfl

theorem run_findKey {kt : TypeId} {q : IntKind} (hk : P.underlying kt = some (.int q)) {k : Int} {l : List MapEntry} {S : List Tm} (h : l.map (fun e => (e.key, e.val)) = S.map (fun t => (Value.int .i64 t.id, t.val))) :
    (Instr.findKey kt (.int .i64 k) l).run P w = .ok ((S.findIdx? (fun t => t.id == k)).bind fun j => (S[j]?).map fun t => (j, t.val)) w := by
  simp only [Instr.findKey, Sem.run_bind, run_underlying hk w, Result.andThen_ok, findNow_ok 0 h, Nat.zero_add]
  rfl

theorem run_check {kt : TypeId} {q : IntKind} (hk : P.underlying kt = some (.int q)) (k : Int) (b : Bool) : (Instr.checkKey b 10000 kt (.int .i64 k)).run P w = .ok () w := by
  unfold Instr.checkKey
  simp only [Sem.run_bind, run_underlying hk w, Result.andThen_ok]
  rfl

/-- Block r is another one. -/
def setB (w : World) (r : Nat) (ob : Obj) : World := { w with heap := w.heap.setIfInBounds r ob }
theorem setB_same {r : Nat} {ob : Obj} (h : r < w.heap.size) : (setB w r ob).heap[r]? = some ob := by simp [setB, h]
theorem setB_other {r k : Nat} {ob : Obj} (h : k ≠ r) : (setB w r ob).heap[k]? = w.heap[k]? := by simp [setB, Array.getElem?_setIfInBounds_ne (Ne.symm h)]
theorem Keeps.setB {X : List Nat} {a b : World} (h : Keeps X a b) {g : Nat} (hg : g ∈ X ∨ a.heap.size ≤ g) (ob : Obj) : Keeps X a (setB b g ob) := by
  refine ⟨h.os, h.tape, h.output, by simpa [Go.Proofs.Ytibdplfdmncgiaa.setB] using h.size, fun i hi hx => ?_⟩
  refine (setB_other ?_).trans (h.block i hi hx)
  rcases hg with hg | hg
  · rintro rfl; exact hx hg
  · omega

theorem run_getMap {r : Nat} {arr : Array MapEntry} {clock : Nat} (h : w.heap[r]? = some (.map arr clock)) : (getObj r).run P w = .ok (.map arr clock) w := by
  simp [getObj, Sem.run, h]
theorem run_setMap {r : Nat} {arr arr' : Array MapEntry} {clock clock' : Nat} (h : w.heap[r]? = some (.map arr clock)) : (Go.setObj r (.map arr' clock')).run P w = .ok () (setB w r (.map arr' clock')) := by
  simp [Go.setObj, Sem.run, h, setB]

theorem run_lookup {T kt et : TypeId} {q : IntKind} (hT : P.underlying T = some (.map kt et)) (hk : P.underlying kt = some (.int q)) (hz : ∀ w, (zeroValue et).run P w = .ok (.agg #[.int .i64 0, .int .i64 0, .string { data := #[] }]) w) {b : Nat} {S : List Tm} (hM : MapW b S w) (k : Int) (ok : Bool) :
    (Instr.lookup T (.map (some b)) (.int .i64 k) ok).run P w = .ok (lookV S k ok) w := by
  obtain ⟨es, clock, h1, h2, hbn⟩ := hM
  have hf := run_findKey (w := w) (k := k) hk h2
  have hg := find_of_idx S k
  simp only [Instr.lookup, Sem.run_bind, run_underlying hT w, Result.andThen_ok, run_getMap h1, Sem.run_pure, run_check hk, hf]
  cases hi : S.findIdx? (fun t => t.id == k) with
  | none =>
    rw [hi] at hg
    simp only [Option.bind_none] at hg ⊢
    simp only [Sem.run_bind, hz, Result.andThen_ok, Sem.run_pure]
    cases ok <;> simp [lookV, ← hg]
  | some j =>
    rw [hi] at hg
    simp only [Option.bind_some] at hg ⊢
    cases hj : S[j]? with
    | none =>
      obtain ⟨hlt, _⟩ := List.findIdx?_eq_some_iff_getElem.1 hi
      rw [List.getElem?_eq_getElem hlt] at hj
      cases hj
    | some t =>
      rw [hj] at hg
      simp only [Option.map_some, Sem.run_pure, Result.andThen_ok]
      cases ok <;> simp [lookV, ← hg]

theorem map_erase {α β : Type} (f : α → β) : ∀ (l : List α) (j : Nat), (l.eraseIdx j).map f = (l.map f).eraseIdx j
  | [], _ => rfl
  | _ :: _, 0 => rfl
  | x :: l, j + 1 => by simp [map_erase f l j]

theorem idx_spec {S : List Tm} {k : Int} {j : Nat} (hi : S.findIdx? (fun t => t.id == k) = some j) : ∃ t, S[j]? = some t ∧ t.id = k := by
  obtain ⟨hlt, h, _⟩ := List.findIdx?_eq_some_iff_getElem.1 hi
  exact ⟨_, List.getElem?_eq_getElem hlt, by simpa using h⟩

theorem run_update {T kt et : TypeId} {q : IntKind} (hT : P.underlying T = some (.map kt et)) (hk : P.underlying kt = some (.int q)) {b : Nat} {S : List Tm} (hM : MapW b S w) (t : Tm) :
    ∃ ob, (Instr.mapUpdate T (.map (some b)) (.int .i64 t.id) t.val).run P w = .ok () (setB w b ob) ∧ MapW b (putT S t) (setB w b ob) := by
  have hlt := hM.lt
  obtain ⟨es, clock, h1, h2, hbn⟩ := hM
  have hf := run_findKey (w := w) (k := t.id) hk h2
  cases hi : S.findIdx? (fun u => u.id == t.id) with
  | none =>
    rw [hi] at hf
    simp only [Option.bind_none] at hf
    refine ⟨.map (es.push { key := .int .i64 t.id, val := t.val, born := clock }) (clock + 1), ?_, ⟨_, _, setB_same hlt, ?_, by rw [Array.toList_push, List.map_append]; exact born_push hbn⟩⟩
    · simp only [Instr.mapUpdate, Sem.run_bind, run_underlying hT w, Result.andThen_ok, run_getMap h1, run_check hk, hf, run_setMap h1]
    · simp [putT, hi, h2]
  | some j =>
    obtain ⟨u, hu, hid⟩ := idx_spec hi
    rw [hi] at hf
    simp only [Option.bind_some, hu, Option.map_some] at hf
    have hjl : j < es.size := by
      have := congrArg List.length h2
      simp only [List.length_map, Array.length_toList] at this
      rw [this]; exact (List.getElem?_eq_some_iff.1 hu).1
    have hkey : (es[j]?).map (·.key) = some (.int .i64 t.id) := by
      have h3 := congrArg (fun l => (l[j]?).map Prod.fst) h2
      simp only [List.getElem?_map, hu, Option.map_some, Array.getElem?_toList, hid] at h3
      rw [← h3]
      cases es[j]? <;> rfl
    refine ⟨.map (es.modify j fun e => { e with key := .int .i64 t.id, val := t.val }) clock, ?_, ⟨_, _, setB_same hlt, ?_, by
      have e : (es.modify j fun e => { e with key := .int .i64 t.id, val := t.val }).toList.map (·.born) = es.toList.map (·.born) := by
        refine List.ext_getElem? fun m => ?_
        simp only [List.getElem?_map, Array.getElem?_toList, Array.getElem?_modify]
        split
        · cases es[m]? <;> rfl
        · rfl
      rw [e]; exact hbn⟩⟩
    · have hst : (Instr.keyThatStays (.int .i64 t.id) (.int .i64 t.id)).run P w = .ok (.int .i64 t.id) w := by
        unfold Instr.keyThatStays
        rw [if_pos (by simp [Instr.sameBits])]
        rfl
      simp only [Instr.mapUpdate, Sem.run_bind, run_underlying hT w, Result.andThen_ok, run_getMap h1, run_check hk, hf, hkey, Option.getD_some, hst, run_setMap h1]
    · simp only [putT, hi]
      rw [List.map_set, ← h2]
      refine List.ext_getElem? fun m => ?_
      simp only [List.getElem?_map, Array.getElem?_toList, Array.getElem?_modify, List.getElem?_set, List.length_map, Array.length_toList]
      by_cases hjm : j = m
      · subst hjm
        simp [hjl]
      · simp [hjm]

theorem run_delete {T kt et ty : TypeId} {q : IntKind} {ts : Array TypeId} (hts : ts[0]? = some T) (hT : P.underlying T = some (.map kt et)) (hk : P.underlying kt = some (.int q)) {b : Nat} {S : List Tm} (hM : MapW b S w) (k : Int) :
    ∃ ob, (Builtin.delete_ ts ty #[.map (some b), .int .i64 k]).run P w = .ok (.tuple #[]) (setB w b ob) ∧ MapW b (dropT S k) (setB w b ob) := by
  have hlt := hM.lt
  obtain ⟨es, clock, h1, h2, hbn⟩ := hM
  have hf := run_findKey (w := w) (k := k) hk h2
  cases hi : S.findIdx? (fun u => u.id == k) with
  | none =>
    rw [hi] at hf
    simp only [Option.bind_none] at hf
    refine ⟨.map es clock, ?_, ⟨_, _, setB_same hlt, ?_, hbn⟩⟩
    · simp [Builtin.delete_, hts, run_underlying hT, run_getMap h1, run_check hk, hf, run_setMap h1]
    · simp [dropT, hi, h2]
  | some j =>
    obtain ⟨u, hu, hid⟩ := idx_spec hi
    rw [hi] at hf
    simp only [Option.bind_some, hu, Option.map_some] at hf
    have hjl : j < es.size := by
      have := congrArg List.length h2
      simp only [List.length_map, Array.length_toList] at this
      rw [this]; exact (List.getElem?_eq_some_iff.1 hu).1
    refine ⟨.map (es.eraseIdxIfInBounds j) clock, ?_, ⟨_, _, setB_same hlt, ?_, by rw [Array.eraseIdxIfInBounds, dif_pos hjl, Array.toList_eraseIdx, map_erase]; exact born_erase hbn j⟩⟩
    · simp [Builtin.delete_, hts, run_underlying hT, run_getMap h1, run_check hk, hf, run_setMap h1]
    · simp only [dropT, hi]
      rw [Array.eraseIdxIfInBounds, dif_pos hjl, Array.toList_eraseIdx, map_erase, h2, map_erase]

theorem run_lenMap {T kt et ty : TypeId} {ts : Array TypeId} (hts : ts[0]? = some T) (hT : P.underlying T = some (.map kt et)) {b : Nat} {S : List Tm} (hM : MapW b S w) :
    (Builtin.len_ ts ty #[.map (some b)]).run P w = .ok (.int .i64 S.length) w := by
  obtain ⟨es, clock, h1, h2, hbn⟩ := hM
  have := congrArg List.length h2
  simp only [List.length_map, Array.length_toList] at this
  simp [Builtin.len_, hts, run_underlying hT, run_getMap h1, this, goInt]
end
end Go.Proofs.Ytibdplfdmncgiaa

/-
  Walk: a timer is laid into the wheel, is set. No condition.
-/
namespace Go.Proofs.Ytibdplfdmncgiaa
open Go.RowKit
attribute [local go_sem] ExtOf.cell ExtOf.frozen ExtOf.lt ExtOf.le
attribute [local go_sem high] ExtOf.cell2 ExtOf.frozen2 ExtOf.lt2 ExtOf.cell3 ExtOf.frozen3 ExtOf.lt3 ExtOf.cellX ExtOf.frozenX ExtOf.cellX' ExtOf.frozenX'

/-- A wheel: its tick, the next number, the next place, the timers that are set, the heap's list and its count. -/
structure Wh where
  now : Int
  ids : Int
  ord : Int
  S : List Tm
  L : List Hd
  m : Int

/-- Where a wheel lies: its map, its heap, itself; rows lie from block B on. -/
structure At where
  bM : Nat
  bH : Nat
  bW : Nat
  B : Nat
  cv : Value
  hM : bM < bH
  hH : bH < bW
  hW : bW < B

def WheelW (T : TypeId) (f : FuncId) (p : At) (v : Value) (W : Wh) (w : World) : Prop :=
  w.heap[p.bW]? = some (.cells #[.int .i64 W.now, .int .i64 W.ids, .int .i64 W.ord, .map (some p.bM), .pointer (some ⟨p.bH, 0, none⟩), p.cv] T (0, 0)) ∧ MapW p.bM W.S w ∧ HeapW p.B p.bH f v W.L W.m w

theorem rowB_ge {B bH : Nat} {f : FuncId} {v : Value} {L : List Hd} {m : Int} {w : World} (h : HeapW B bH f v L m w) : ∀ g ∈ rowB v, B ≤ g := fun g hg => by
  rcases h.2.2 with ⟨hv, _⟩ | ⟨g', cap, cur, hv, hb, _⟩
  · subst hv; simp [rowB, Value.ownBlock] at hg
  · subst hv
    simp only [rowB, Value.ownBlock, List.mem_singleton] at hg
    omega
theorem HeapW.ext {B bH : Nat} {f : FuncId} {v : Value} {L : List Hd} {m : Int} {w w' : World} (h : HeapW B bH f v L m w) (e : Ext w w') : HeapW B bH f v L m w' := ⟨heap_ext h.1 e, own_ext h.2 e⟩
theorem HeapW.same {B bH : Nat} {f : FuncId} {v : Value} {L : List Hd} {m : Int} {w w' : World} (h : HeapW B bH f v L m w) (h1 : w'.heap[bH]? = w.heap[bH]?) (h2 : ∀ k, B ≤ k → k < w.heap.size → w'.heap[k]? = w.heap[k]?) : HeapW B bH f v L m w' := ⟨h1.trans h.1, own_same h.2 h2⟩

/-- The blocks of a wheel. -/
def At.all (p : At) (v : Value) : List Nat := p.bW :: p.bM :: p.bH :: rowB v

section
variable {P : Program} {ops : Array Oper} {rest : List Oper} {o : Oper} {a : Act} {w : World} {Q : Exit → Act → World → Prop}
theorem wpList_update (hgd : o.guard = none) (T kt et : TypeId) (q : IntKind) (m k x : Operand) (ho : o.op = .mapUpdate T m k x) (hT : P.underlying T = some (.map kt et)) (hk : P.underlying kt = some (.int q)) (b : Nat) (S : List Tm) (t : Tm)
    (hm : a.eval m = .map (some b)) (hkv : a.eval k = .int .i64 t.id) (hx : a.eval x = t.val) (hM : MapW b S w)
    (h : ∀ ob, MapW b (putT S t) (setB w b ob) → wpList P ops Q rest (a.put o.dst undef) (setB w b ob)) : wpList P ops Q (o :: rest) a w := by
  refine wpList_plain hgd fun _ hK => ?_
  obtain ⟨ob, hr, hM'⟩ := run_update (P := P) hT hk hM t
  unfold Oper.wp execOp
  simp only [ho, hm, hkv, hx, Sem.run_bind, hr, Result.andThen_ok]
  exact hK _ _ (h ob hM')
end

/-- What is behind the laying of a timer. -/
def laidW (W : Wh) (id at_ : Int) (v : ByteArray) : Wh := ⟨W.now, W.ids, W.ord + 1, putT W.S ⟨id, at_, W.ord, v⟩, upH W.L.length (W.L ++ [⟨at_, W.ord, id, W.m⟩]) W.L.length, W.m + 1⟩
def LaidW (T : TypeId) (f : FuncId) (p : At) (v : Value) (W : Wh) (r : Value) (w : World) : Ending → World → Prop := fun e w' =>
  e = .returned r ∧ ∃ v', WheelW T f p v' W w' ∧ Keeps (p.all v) w w' ∧ ∀ g ∈ rowB v', g ∈ rowB v ∨ w.heap.size ≤ g

/-- What Set does: its answer, the wheel then. -/
def setW (W : Wh) (at_ : Int) (v : ByteArray) : (Int × Int) × Wh :=
  if at_ ≤ W.now then ((0, 140), W)
  else if 4096 ≤ (W.S.length : Int) then ((0, 6), W)
  else ((W.ids, 0), laidW { W with ids := W.ids + 1 } W.ids at_ v)
def numV (x : Int × Int) : Value := .tuple #[.int .i64 x.1, .int .i64 x.2]

set_option maxRecDepth 100000 in
set_option maxHeartbeats 8000000 in
theorem lay_string (p : At) (v : Value) (W : Wh) (id at_ : Int) (x : ByteArray) (w : World) (hW : WheelW 101 47 p v W w) (hB : p.B ≤ w.heap.size) (hL : W.L.length ≤ 100000) (hm : 0 ≤ W.m ∧ W.m ≤ 100000) (ho : 0 ≤ W.ord ∧ W.ord ≤ 100000) :
    Calls Try.prog 59 #[.pointer (some ⟨p.bW, 0, none⟩), .int .i64 id, .int .i64 at_, .string x] w (LaidW 101 47 p v (laidW W id at_ x) (.tuple #[]) w) := by
  obtain ⟨now, ids, ord, S, L, m⟩ := W
  obtain ⟨bM, bH, bW, B, cv, pM, pH, pW⟩ := p
  obtain ⟨hb, hM, hH⟩ := hW
  obtain ⟨ho0, ho1⟩ := ho
  simp only at hb hM hH hB hL hm ho0 ho1 ⊢
  have lb : bW < w.heap.size := (Array.getElem?_eq_some_iff.1 hb).1
  have hcb := fun j => cell_of_row w _ j _ _ _ hb
  have HB := Lib.hid hb
  have HM := Lib.hid hM
  have HH := Lib.hid hH
  have HMM := Lib.hid hm
  clear hb hM hH hm
  go_enter Try.func59, Try.ntmps59
  go_upto_region 0 with fail
  go_cut [] (fun wx => Hid (wx.heap[bW]? = some (.cells #[.int .i64 now, .int .i64 ids, .int .i64 ord, .map (some bM), .pointer (some ⟨bH, 0, none⟩), cv] 101 (0, 0)) ∧ MapW bM (putT S ⟨id, at_, ord, x⟩) wx ∧ HeapW B bH 47 v L m wx ∧ Keeps (bW :: bM :: bH :: rowB v) w wx))
  case first =>
    refine wp_region_late (af := ?af1) [true, true, true, true, true, true, true, true, true, true, true, true, false] [false, false, false, false, false, false, false, false, false, false, false, false, true] 39 (Ext w) (by kernel_rfl) rfl (by kernel_rfl) (fun _ _ h e => Ext.trans h e) (Ext.refl w).drew ?q ?r
    case q =>
      intro w' hw'
      obtain ⟨y, rfl⟩ := ext_of hw'
      simp only [pickT, if_true, if_false, Bool.false_eq_true]
      repeat (go_big_quiet_step (fail))
      exact rfl
    case r =>
      simp only [pickN, if_true, if_false, Bool.false_eq_true]
      intro y1
      have e1 : Ext w y1.val := (Ext.refl _).drew.val y1
      refine wpList_update rfl 98 3 112 .i64 _ _ _ rfl Try.underlying98 Try.underlying3 bM S ⟨id, at_, ord, x⟩ rfl rfl rfl (HM.out.ext e1) fun ob hM' => ?_
      have hWb := heap_ext HB.out e1
      have b2 : (setB y1.val bM ob).heap[bW]? = _ := (setB_other (show bW ≠ bM by omega)).trans hWb
      have h2 : HeapW B bH 47 v L m (setB y1.val bM ob) := (HH.out.ext e1).same (setB_other (show bH ≠ bM by omega)) (fun k hk _ => setB_other (show k ≠ bM by omega))
      have k2 : Keeps (bW :: bM :: bH :: rowB v) w (setB y1.val bM ob) := ((Keeps.refl _ w).ext e1).setB (.inl (by simp)) _
      generalize setB y1.val bM ob = w2 at hM' b2 h2 k2 ⊢
      go_wp2_with fail
      try refine ⟨fun h => absurd h (by decide), ?_⟩
      intro y3
      go_wp2_with fail
      go_meet
      exact Lib.hid ⟨heap_ext b2 y3.ext, hM'.ext y3.ext, h2.ext y3.ext, k2.ext y3.ext⟩
  case rest =>
    obtain ⟨hb1, hM1, hH1, hk1⟩ := hcut.out
    clear hcut hcb lb HB HM HH
    have lb1 : bW < wc.heap.size := (Array.getElem?_eq_some_iff.1 hb1).1
    have hcb1 := fun j => cell_of_row wc _ j _ _ _ hb1
    have hs1 : B ≤ wc.heap.size := Nat.le_trans hB hk1.size
    have HB1 := Lib.hid hb1
    have HM1 := Lib.hid hM1
    have HH1 := Lib.hid hH1
    have HK1 := Lib.hid hk1
    clear hb1 hM1 hH1 hk1
    go_upto_region 1 with fail
    go_cut [] (fun wx => Hid (∃ v', wx.heap[bW]? = some (.cells #[.int .i64 now, .int .i64 ids, .int .i64 ord, .map (some bM), .pointer (some ⟨bH, 0, none⟩), cv] 101 (0, 0)) ∧ MapW bM (putT S ⟨id, at_, ord, x⟩) wx ∧ HeapW B bH 47 v' (upH L.length (L ++ [⟨at_, ord, id, m⟩]) L.length) (m + 1) wx ∧ Keeps (bW :: bM :: bH :: rowB v) w wx ∧ ∀ g ∈ rowB v', g ∈ rowB v ∨ w.heap.size ≤ g))
    case first =>
      go_still_tail 11, (by kernel_rfl)
      change wpList _ _ _ _ _ wc.drew
      generalize hw1 : wc.drew = w1
      have e1 : Ext wc w1 := by rw [← hw1]; exact (Ext.refl _).drew
      clear hw1
      go_wp2_with fail
      refine (push_string B bH v L ⟨at_, ord, id, m⟩ w1 (HH1.out.ext e1) (by omega) (Nat.le_trans hs1 e1.size) hL HMM.out).mono ?_
      rintro e w2 ⟨rfl, v', hH2, hk2, hr2⟩
      have hg := rowB_ge HH1.out
      have nW : bW ∉ bH :: rowB v := fun h => by
        rcases List.mem_cons.1 h with h | h
        · omega
        · have := hg _ h; omega
      have nM : bM ∉ bH :: rowB v := fun h => by
        rcases List.mem_cons.1 h with h | h
        · omega
        · have := hg _ h; omega
      have b2 : w2.heap[bW]? = _ := (hk2.block bW (Nat.lt_of_lt_of_le lb1 e1.size) nW).trans (heap_ext HB1.out e1)
      have m2 : MapW bM _ w2 := (HM1.out.ext e1).same (hk2.block bM (HM1.out.ext e1).lt nM)
      have k2 : Keeps (bW :: bM :: bH :: rowB v) w w2 := (HK1.out.ext e1).trans (hk2.mono (fun k hk => by simp only [List.mem_cons] at hk ⊢; rcases hk with h | h <;> simp [h]))
      have r2 : ∀ g ∈ rowB v', g ∈ rowB v ∨ w.heap.size ≤ g := fun q hq => (hr2 q hq).imp (fun h => h) (fun h => by have := HK1.out.size; have := e1.size; omega)
      clear hk2 hr2
      go_wp2_with fail
      go_meet
      exact Lib.hid ⟨v', b2, m2, hH2, k2, r2⟩
    case rest =>
      obtain ⟨v', hb2, hM2, hH2, hk2, hr2⟩ := hcut.out
      clear hcut hcb1 lb1 HB1 HM1 HH1 HK1
      have lb2 : bW < wc.heap.size := (Array.getElem?_eq_some_iff.1 hb2).1
      have hcb2 := fun j => cell_of_row wc _ j _ _ _ hb2
      have hfb2 := fun j => frozen_of_row wc _ j _ _ hb2
      have HB2 := Lib.hid hb2
      have HM2 := Lib.hid hM2
      have HH2 := Lib.hid hH2
      have HK2 := Lib.hid hk2
      clear hb2 hM2 hH2 hk2
      go_wp2_with fail
      refine ⟨rfl, .tuple #[], by simp [results, go_sem], rfl, v', ⟨by simpa [laidW] using setCell_row (o := 2) HB2.out (.int .i64 (ord + 1)), HM2.out.same (cell_other (by show bM ≠ bW; omega)), HH2.out.same (cell_other (by show bH ≠ bW; omega)) (fun k hk _ => cell_other (by show k ≠ bW; omega))⟩, HK2.out.setCell (.inl (by simp)) _ _, hr2⟩

set_option maxRecDepth 100000 in
set_option maxHeartbeats 8000000 in
theorem set_string (p : At) (v : Value) (W : Wh) (at_ : Int) (x : ByteArray) (w : World) (hW : WheelW 101 47 p v W w) (hB : p.B ≤ w.heap.size) (hL : W.L.length ≤ 100000) (hm : 0 ≤ W.m ∧ W.m ≤ 100000) (ho : 0 ≤ W.ord ∧ W.ord ≤ 100000) (hi : 0 ≤ W.ids ∧ W.ids ≤ 100000) :
    Calls Try.prog 35 #[.pointer (some ⟨p.bW, 0, none⟩), .int .i64 at_, .string x] w (LaidW 101 47 p v (setW W at_ x).2 (numV (setW W at_ x).1) w) := by
  obtain ⟨now, ids, ord, S, L, m⟩ := W
  obtain ⟨bM, bH, bW, B, cv, pM, pH, pW⟩ := p
  obtain ⟨hb, hM, hH⟩ := hW
  simp only at hb hM hH hB hL hm ho hi ⊢
  have lb : bW < w.heap.size := (Array.getElem?_eq_some_iff.1 hb).1
  have hcb := fun j => cell_of_row w _ j _ _ _ hb
  have hfb := fun j => frozen_of_row w _ j _ _ hb
  have hlen : ∀ ty, (Builtin.len_ #[98] ty #[.map (some bM)]).run Try.prog w = .ok (.int .i64 S.length) w := fun ty => run_lenMap (ts := #[98]) rfl Try.underlying98 hM
  have HB := Lib.hid hb
  have HM := Lib.hid hM
  have HH := Lib.hid hH
  have HMM := Lib.hid hm
  have HOO := Lib.hid ho
  obtain ⟨i0, i1⟩ := hi
  clear hb hM hH hm ho
  by_cases h1 : at_ ≤ now
  · have HS : setW ⟨now, ids, ord, S, L, m⟩ at_ x = ((0, 140), ⟨now, ids, ord, S, L, m⟩) := by unfold setW; rw [if_pos h1]
    rw [HS]
    go_enter Try.func35, Try.ntmps35
    go_wp2_with fail
    go_ret2
    exact ⟨rfl, v, ⟨HB.out, HM.out, HH.out⟩, Keeps.refl _ _, fun q hq => .inl hq⟩
  · have h1' : now < at_ := by omega
    by_cases h2 : 4096 ≤ (S.length : Int)
    · have HS : setW ⟨now, ids, ord, S, L, m⟩ at_ x = ((0, 6), ⟨now, ids, ord, S, L, m⟩) := by unfold setW; rw [if_neg h1, if_pos h2]
      rw [HS]
      clear HS h1
      go_enter Try.func35, Try.ntmps35
      go_wp2_with fail
      go_ret2
      exact ⟨rfl, v, ⟨HB.out, HM.out, HH.out⟩, Keeps.refl _ _, fun q hq => .inl hq⟩
    · have h2' : (S.length : Int) < 4096 := by omega
      have HS : setW ⟨now, ids, ord, S, L, m⟩ at_ x = ((ids, 0), laidW ⟨now, ids + 1, ord, S, L, m⟩ ids at_ x) := by unfold setW; rw [if_neg h1, if_neg h2]
      rw [HS]
      clear HS h1 h2
      go_enter Try.func35, Try.ntmps35
      go_wp2_with fail
      have hb2 := setCell_row (o := 1) HB.out (.int .i64 (ids + 1))
      refine (lay_string ⟨bM, bH, bW, B, cv, pM, pH, pW⟩ v ⟨now, ids + 1, ord, S, L, m⟩ ids at_ x _ ⟨by simpa using hb2, HM.out.same (cell_other (by show bM ≠ bW; omega)), HH.out.same (cell_other (by show bH ≠ bW; omega)) (fun k hk _ => cell_other (by show k ≠ bW; omega))⟩ (by simpa [World.setCell] using hB) hL HMM.out HOO.out).mono ?_
      rintro e w2 ⟨rfl, v', hW2, hk2, hr2⟩
      have k0 : Keeps (At.all ⟨bM, bH, bW, B, cv, pM, pH, pW⟩ v) w (w.setCell ⟨bW, 1, none⟩ (.int .i64 (ids + 1))) := (Keeps.refl _ w).setCell (.inl (by simp [At.all])) _ _
      have hs : (w.setCell ⟨bW, 1, none⟩ (.int .i64 (ids + 1))).heap.size = w.heap.size := by simp [World.setCell]
      rw [hs] at hr2
      have HW2 := Lib.hid hW2
      have HK2 := Lib.hid (k0.trans hk2)
      clear hW2 hk2 k0 hb2 hs
      go_wp2_with fail
      go_ret2
      exact ⟨rfl, v', HW2.out, HK2.out, hr2⟩
end Go.Proofs.Ytibdplfdmncgiaa

/-
  Walk: the timer that falls due first. No condition.
-/
namespace Go.Proofs.Ytibdplfdmncgiaa
open Go.RowKit
attribute [local go_sem] ExtOf.cell ExtOf.frozen ExtOf.lt ExtOf.le
attribute [local go_sem high] ExtOf.cell2 ExtOf.frozen2 ExtOf.lt2 ExtOf.cell3 ExtOf.frozen3 ExtOf.lt3 ExtOf.cellX ExtOf.frozenX ExtOf.cellX' ExtOf.frozenX'

theorem WheelW.ext {T : TypeId} {f : FuncId} {p : At} {v : Value} {W : Wh} {w w' : World} (h : WheelW T f p v W w) (e : Ext w w') : WheelW T f p v W w' := ⟨heap_ext h.1 e, h.2.1.ext e, h.2.2.ext e⟩

theorem downH_length : ∀ (f : Nat) (L : List Hd) (i : Nat), (downH f L i).length = L.length
  | 0, _, _ => rfl
  | f + 1, L, i => by
    unfold downH
    split
    · split
      · split
        · split
          · split
            · rw [downH_length, swapH_length]
            · rfl
          · split
            · rw [downH_length, swapH_length]
            · rfl
        · split
          · rw [downH_length, swapH_length]
          · rfl
      · rfl
    · rfl

/-- The heap's list without its first thing. -/
def popH (L : List Hd) : List Hd := match L[L.length - 1]? with
  | some l => downH (L.length - 1) ((L.set 0 l).take (L.length - 1)) 0
  | none => []
theorem popH_length {x : Hd} {L : List Hd} : (popH (x :: L)).length = L.length := by
  unfold popH
  rw [List.getElem?_eq_getElem (by simp)]
  simp only
  rw [downH_length]
  simp

/-- The heap's list behind passing over what is not so any more. -/
def firstL (S : List Tm) : Nat → List Hd → List Hd
  | 0, L => L
  | f + 1, L => match L with
    | [] => []
    | x :: L' => match getT S x.i with
      | some t => if t.o = x.o then x :: L' else firstL S f (popH (x :: L'))
      | none => firstL S f (popH (x :: L'))
def firstV : List Hd → Int × Bool
  | [] => (0, false)
  | x :: _ => (x.i, true)

/-- What is behind the search. -/
def FoundW (T : TypeId) (f : FuncId) (p : At) (v : Value) (W : Wh) (w : World) : Ending → World → Prop := fun e w' =>
  e = .returned (.tuple #[.int .i64 (firstV (firstL W.S W.L.length W.L)).1, .bool (firstV (firstL W.S W.L.length W.L)).2]) ∧
    ∃ v', WheelW T f p v' { W with L := firstL W.S W.L.length W.L } w' ∧ Keeps (p.bH :: rowB v) w w' ∧ rowB v' = rowB v

theorem zero_string (w : World) : (zeroValue 112).run Try.prog w = .ok (.agg #[.int .i64 0, .int .i64 0, .string { data := #[] }]) w := by kernel_rfl
theorem info_tm_string (a b c : Value) : (Try.prog.info? 112).map (·.size) = some (#[a, b, c] : Array Value).size := by
  rw [show (#[a, b, c] : Array Value).size = 3 from rfl]
  kernel_rfl

set_option maxRecDepth 100000 in
set_option maxHeartbeats 8000000 in
theorem first_string (p : At) (v : Value) (W : Wh) (w : World) (hW : WheelW 101 47 p v W w) (hB : p.B ≤ w.heap.size) (hL : W.L.length ≤ 100000) :
    Calls Try.prog 60 #[.pointer (some ⟨p.bW, 0, none⟩)] w (FoundW 101 47 p v W w) := by
  obtain ⟨now, ids, ord, S, L, m⟩ := W
  obtain ⟨bM, bH, bW, B, cv, pM, pH, pW⟩ := p
  simp only at hB hL ⊢
  have HW := Lib.hid hW
  clear hW
  go_enter Try.func60, Try.ntmps60
  go_wp2_with fail
  go_loopg [5] L.length (fun g _ wr => ∃ (f : Nat) (Lc : List Hd) (vc : Value), Lc.length ≤ g ∧ Lc.length ≤ f ∧ Lc.length ≤ L.length ∧ Hid (firstL S f Lc = firstL S L.length L) ∧ Hid (WheelW 101 47 ⟨bM, bH, bW, B, cv, pM, pH, pW⟩ vc ⟨now, ids, ord, S, Lc, m⟩ wr) ∧ Hid (Keeps (bH :: rowB v) w wr) ∧ Hid (rowB vc = rowB v))
  case atStart => exact ⟨L.length, L, v, Nat.le_refl _, Nat.le_refl _, Nat.le_refl _, Lib.hid rfl, HW, Lib.hid (Keeps.refl _ _), Lib.hid rfl⟩
  case round =>
    obtain ⟨f, Lc, vc, hg, hf, hl, HF, HWc, HK, HR⟩ := hrel
    clear HW
    obtain ⟨hb, hM, hH⟩ := HWc.out
    simp only at hb hM hH
    have lb : bW < wr.heap.size := (Array.getElem?_eq_some_iff.1 hb).1
    have hcb := fun j => cell_of_row wr _ j _ _ _ hb
    have HB := Lib.hid hb
    have HM := Lib.hid hM
    have HH := Lib.hid hH
    clear hb hM hH
    cases Lc with
    | nil =>
      go_wp2_with fail
      refine (peek_any B bH 47 vc [] m wr HH.out (by simp)).mono ?_
      rintro e w1 ⟨rfl, hx1⟩
      simp only [peekV]
      go_wp2_with (refine wpList_store_row rfl 78 _ _ rfl w1.heap.size _ rfl rfl 78 _ (heap_new rfl) (info_slot _ _ _) rfl (by simp [Value.oneCell']) ?_)
      go_ret2
      have hF0 : firstL S L.length L = [] := by rw [← HF.out]; cases f <;> rfl
      have eX : Ext wr ((w1.alloc (.cells #[.int .i64 0, .int .i64 0, .int .i64 0] 78)).setRow w1.heap.size #[.int .i64 0, .int .i64 0, .int .i64 0]) := (hx1.alloc _).setRow hx1.size _
      refine ⟨by simp only [hF0]; rfl, vc, ?_, HK.out.ext eX, HR.out⟩
      simp only [hF0]
      exact HWc.out.ext eX
    | cons x Lt =>
      go_wp2_with fail
      refine (peek_any B bH 47 vc (x :: Lt) m wr HH.out (by omega)).mono ?_
      rintro e w1 ⟨rfl, hx1⟩
      simp only [peekV]
      go_wp2_with (refine wpList_store_row rfl 78 _ _ rfl w1.heap.size _ rfl rfl 78 _ (heap_new rfl) (info_slot _ _ _) rfl (by simp [Value.oneCell']) (unHd ?_))
      have eX : Ext wr ((w1.alloc (.cells #[.int .i64 0, .int .i64 0, .int .i64 0] 78)).setRow w1.heap.size #[.int .i64 x.a, .int .i64 x.o, .int .i64 x.i]) := (hx1.alloc _).setRow hx1.size _
      have eT := setRow_heap _ _ _ #[.int .i64 x.a, .int .i64 x.o, .int .i64 x.i] _ _ (heap_new (w := w1) (o := .cells #[.int .i64 0, .int .i64 0, .int .i64 0] 78) rfl)
      generalize World.setRow _ _ _ = w2 at eX eT ⊢
      have hcs2 := fun j => cell_of_row w2 _ j _ _ _ eT
      have ls2 : w1.heap.size < w2.heap.size := (Array.getElem?_eq_some_iff.1 eT).1
      have hb2 := heap_ext HB.out eX
      have hcb2 := fun j => cell_of_row w2 _ j _ _ _ hb2
      have lb2 : bW < w2.heap.size := (Array.getElem?_eq_some_iff.1 hb2).1
      have HTS := Lib.hid eT
      have HB2 := Lib.hid hb2
      have HM2 := Lib.hid (HM.out.ext eX)
      have HH2 := Lib.hid (HH.out.ext eX)
      have HK2 := Lib.hid (HK.out.ext eX)
      clear eX eT hb2 hx1 hcb lb HB HM HH HK HWc
      unfold Hd2
      rcases hgt : getT S x.i with _ | t
      · have HGT := Lib.hid hgt
        clear hgt
        go_wp2_with fail
        have hlk : lookV S x.i true = .tuple #[.agg #[.int .i64 0, .int .i64 0, .string { data := #[] }], .bool false] := by simp only [lookV, HGT.out]
        have HLK := Lib.hid hlk
        clear hlk
        refine wp_region_mixF (af := ?af1) #[.int .i64 0, .int .i64 0, .string { data := #[] }] 112 [true, true, true, true, true, true, true, true, true, true, false, false, false] [false, false, false, false, false, false, false, false, false, false, false, false, true] 43 0 (C := Ext w2) (by kernel_rfl) rfl (by kernel_rfl) (fun _ _ h e => Ext.trans h e) (Ext.refl w2).drew ?q ?r
        case q =>
          intro w' hw'
          obtain ⟨y, rfl⟩ := ext_of hw'
          have hlk2 : ∀ y2 : ExtOf y.val, (Instr.lookup 98 (.map (some bM)) (.int .i64 x.i) true).run Try.prog y2.val = .ok (.tuple #[.agg #[.int .i64 0, .int .i64 0, .string { data := #[] }], .bool false]) y2.val := fun y2 => by
            rw [← HLK.out]
            exact run_lookup Try.underlying98 Try.underlying3 zero_string (HM2.out.ext (y.ext.trans y2.ext)) x.i true
          simp only [pickT, if_true, if_false, Bool.false_eq_true]
          repeat (go_big_quiet_step (fail))
          exact rfl
        case r =>
          simp only [restL, if_true, if_false, Bool.false_eq_true]
          refine ⟨fun a w => by simp [go_sem], ?_⟩
          intro x1 gT hgT hzT
          intro x3
          have e3 : Ext w2 x3.val := ((Ext.refl w2).drew.val x1).val x3
          go_wp2_with (refine wpList_store_row rfl 112 _ _ rfl gT _ rfl rfl 112 _ (heap_ext hzT x3.ext) (info_tm_string _ _ _) rfl (by simp [Value.oneCell']) ?_)
          refine ⟨e3.setRow hgT _, ?_⟩
          refine ⟨_, .inl ⟨rfl, fun w _ => ⟨rfl, rfl⟩⟩, ?_⟩
          intro x4
          have eT := heap_ext (setRow_heap _ _ _ #[.int .i64 0, .int .i64 0, .string { data := #[] }] _ _ (heap_ext hzT x3.ext)) x4.ext
          have e4 : Ext w2 x4.val := (e3.setRow hgT _).val x4
          generalize x4.val = w3 at eT e4 ⊢
          clear x4 x3 x1 hzT e3
          have hct3 := fun j => cell_of_row w3 _ j _ _ _ eT
          have lt3 : gT < w3.heap.size := (Array.getElem?_eq_some_iff.1 eT).1
          have hts3 := heap_ext HTS.out e4
          have hcs3 := fun j => cell_of_row w3 _ j _ _ _ hts3
          have ls3 : w1.heap.size < w3.heap.size := (Array.getElem?_eq_some_iff.1 hts3).1
          have hb3 := heap_ext HB2.out e4
          have hcb3 := fun j => cell_of_row w3 _ j _ _ _ hb3
          have lb3 : bW < w3.heap.size := (Array.getElem?_eq_some_iff.1 hb3).1
          have HB3 := Lib.hid hb3
          have HM3 := Lib.hid (HM2.out.ext e4)
          have HH3 := Lib.hid (HH2.out.ext e4)
          have HK3 := Lib.hid (HK2.out.ext e4)
          clear eT hts3 hb3 e4 hcb2 hcs2 HLK
          go_wp2_with fail
          obtain ⟨l, hll⟩ : ∃ l, (x :: Lt)[Lt.length]? = some l := ⟨_, List.getElem?_eq_getElem (by simp)⟩
          refine (pop_string B bH vc (x :: Lt) Lt.length x l m w3 HH3.out (by omega) (by have := HK3.out.size; omega) rfl (by simp at hl; omega) rfl hll).mono ?_
          rintro e w5 ⟨rfl, v5, hH5, hk5, hr5⟩
          have hpop : downH Lt.length (((x :: Lt).set 0 l).take Lt.length) 0 = popH (x :: Lt) := by
            unfold popH
            simp only [List.length_cons, Nat.add_sub_cancel]
            rw [hll]
          rw [hpop] at hH5
          have hgB := rowB_ge HH3.out
          have nW : bW ∉ bH :: rowB vc := fun h => by
            rcases List.mem_cons.1 h with h | h
            · omega
            · have := hgB _ h; omega
          have nM : bM ∉ bH :: rowB vc := fun h => by
            rcases List.mem_cons.1 h with h | h
            · omega
            · have := hgB _ h; omega
          have HW5 := Lib.hid (show WheelW 101 47 ⟨bM, bH, bW, B, cv, pM, pH, pW⟩ v5 ⟨now, ids, ord, S, popH (x :: Lt), m⟩ w5 from ⟨(hk5.block bW lb3 nW).trans HB3.out, HM3.out.same (hk5.block bM HM3.out.lt nM), hH5⟩)
          have HK5 := Lib.hid (HK3.out.trans (hk5.mono (fun k hk => by rw [HR.out] at hk; exact hk)))
          have HR5 := Lib.hid (hr5.trans HR.out)
          have hl' : (popH (x :: Lt)).length = Lt.length := popH_length
          have hff : firstL S f (x :: Lt) = firstL S (f - 1) (popH (x :: Lt)) := by
            obtain ⟨f', rfl⟩ : ∃ f', f = f' + 1 := ⟨f - 1, by simp at hf; omega⟩
            show (match getT S x.i with | some t => if t.o = x.o then x :: Lt else firstL S f' (popH (x :: Lt)) | none => firstL S f' (popH (x :: Lt))) = _
            rw [HGT.out]; rfl
          have HFF := Lib.hid (hff.symm.trans HF.out)
          clear hH5 hk5 hr5 hpop hll hff hcb3 hct3 hcs3 lb3 ls3 lt3
          go_wp2_with fail
          go_roundg (gk - 1)
          case rel => exact ⟨f - 1, popH (x :: Lt), v5, by simp at hg; omega, by simp at hf; omega, by simp at hl; omega, HFF, HW5, HK5, HR5⟩
          case measure => simp at hg; omega
      · have HGT := Lib.hid hgt
        clear hgt
        by_cases hto : t.o = x.o
        · have HTO := Lib.hid hto
          clear hto
          go_wp2_with fail
          have hlk : lookV S x.i true = .tuple #[.agg #[.int .i64 t.a, .int .i64 t.o, .string t.v], .bool true] := by simp only [lookV, HGT.out]; rfl
          have HLK := Lib.hid hlk
          clear hlk
          refine wp_region_mixF (af := ?af2) #[.int .i64 0, .int .i64 0, .string { data := #[] }] 112 [true, true, true, true, true, true, true, true, true, true, false, false, false] [false, false, false, false, false, false, false, false, false, false, false, false, true] 43 0 (C := Ext w2) (by kernel_rfl) rfl (by kernel_rfl) (fun _ _ h e => Ext.trans h e) (Ext.refl w2).drew ?q ?r
          case q =>
            intro w' hw'
            obtain ⟨y, rfl⟩ := ext_of hw'
            have hlk2 : ∀ y2 : ExtOf y.val, (Instr.lookup 98 (.map (some bM)) (.int .i64 x.i) true).run Try.prog y2.val = .ok (.tuple #[.agg #[.int .i64 t.a, .int .i64 t.o, .string t.v], .bool true]) y2.val := fun y2 => by
              rw [← HLK.out]
              exact run_lookup Try.underlying98 Try.underlying3 zero_string (HM2.out.ext (y.ext.trans y2.ext)) x.i true
            simp only [pickT, if_true, if_false, Bool.false_eq_true]
            repeat (go_big_quiet_step (fail))
            exact rfl
          case r =>
            simp only [restL, if_true, if_false, Bool.false_eq_true]
            refine ⟨fun a w => by simp [go_sem], ?_⟩
            intro x1 gT hgT hzT
            intro x3
            have e3 : Ext w2 x3.val := ((Ext.refl w2).drew.val x1).val x3
            go_wp2_with (refine wpList_store_row rfl 112 _ _ rfl gT _ rfl rfl 112 _ (heap_ext hzT x3.ext) (info_tm_string _ _ _) rfl (by simp [Value.oneCell']) ?_)
            refine ⟨e3.setRow hgT _, ?_⟩
            refine ⟨_, .inl ⟨rfl, fun w _ => ⟨rfl, rfl⟩⟩, ?_⟩
            intro x4
            have eT := heap_ext (setRow_heap _ _ _ #[.int .i64 t.a, .int .i64 t.o, .string t.v] _ _ (heap_ext hzT x3.ext)) x4.ext
            have e4 : Ext w2 x4.val := (e3.setRow hgT _).val x4
            generalize x4.val = w3 at eT e4 ⊢
            clear x4 x3 x1 hzT e3
            have hct3 := fun j => cell_of_row w3 _ j _ _ _ eT
            have lt3 : gT < w3.heap.size := (Array.getElem?_eq_some_iff.1 eT).1
            have hts3 := heap_ext HTS.out e4
            have hcs3 := fun j => cell_of_row w3 _ j _ _ _ hts3
            have ls3 : w1.heap.size < w3.heap.size := (Array.getElem?_eq_some_iff.1 hts3).1
            have hb3 := heap_ext HB2.out e4
            have hcb3 := fun j => cell_of_row w3 _ j _ _ _ hb3
            have lb3 : bW < w3.heap.size := (Array.getElem?_eq_some_iff.1 hb3).1
            have HB3 := Lib.hid hb3
            have HM3 := Lib.hid (HM2.out.ext e4)
            have HH3 := Lib.hid (HH2.out.ext e4)
            have HK3 := Lib.hid (HK2.out.ext e4)
            clear eT hts3 hb3 e4 hcb2 hcs2 HLK
            have hto : (t.o == x.o) = true := by simp [HTO.out]
            go_wp2_with fail
            go_ret2
            have hF0 : firstL S L.length L = x :: Lt := by
              rw [← HF.out]
              obtain ⟨f', rfl⟩ : ∃ f', f = f' + 1 := ⟨f - 1, by simp at hf; omega⟩
              show (match getT S x.i with | some t => if t.o = x.o then x :: Lt else firstL S f' (popH (x :: Lt)) | none => firstL S f' (popH (x :: Lt))) = _
              rw [HGT.out]
              exact if_pos HTO.out
            refine ⟨by simp only [hF0]; rfl, vc, ?_, HK3.out, HR.out⟩
            simp only [hF0]
            exact ⟨HB3.out, HM3.out, HH3.out⟩
        · have HTO := Lib.hid hto
          clear hto
          go_wp2_with fail
          have hlk : lookV S x.i true = .tuple #[.agg #[.int .i64 t.a, .int .i64 t.o, .string t.v], .bool true] := by simp only [lookV, HGT.out]; rfl
          have HLK := Lib.hid hlk
          clear hlk
          refine wp_region_mixF (af := ?af3) #[.int .i64 0, .int .i64 0, .string { data := #[] }] 112 [true, true, true, true, true, true, true, true, true, true, false, false, false] [false, false, false, false, false, false, false, false, false, false, false, false, true] 43 0 (C := Ext w2) (by kernel_rfl) rfl (by kernel_rfl) (fun _ _ h e => Ext.trans h e) (Ext.refl w2).drew ?q ?r
          case q =>
            intro w' hw'
            obtain ⟨y, rfl⟩ := ext_of hw'
            have hlk2 : ∀ y2 : ExtOf y.val, (Instr.lookup 98 (.map (some bM)) (.int .i64 x.i) true).run Try.prog y2.val = .ok (.tuple #[.agg #[.int .i64 t.a, .int .i64 t.o, .string t.v], .bool true]) y2.val := fun y2 => by
              rw [← HLK.out]
              exact run_lookup Try.underlying98 Try.underlying3 zero_string (HM2.out.ext (y.ext.trans y2.ext)) x.i true
            simp only [pickT, if_true, if_false, Bool.false_eq_true]
            repeat (go_big_quiet_step (fail))
            exact rfl
          case r =>
            simp only [restL, if_true, if_false, Bool.false_eq_true]
            refine ⟨fun a w => by simp [go_sem], ?_⟩
            intro x1 gT hgT hzT
            intro x3
            have e3 : Ext w2 x3.val := ((Ext.refl w2).drew.val x1).val x3
            go_wp2_with (refine wpList_store_row rfl 112 _ _ rfl gT _ rfl rfl 112 _ (heap_ext hzT x3.ext) (info_tm_string _ _ _) rfl (by simp [Value.oneCell']) ?_)
            refine ⟨e3.setRow hgT _, ?_⟩
            refine ⟨_, .inl ⟨rfl, fun w _ => ⟨rfl, rfl⟩⟩, ?_⟩
            intro x4
            have eT := heap_ext (setRow_heap _ _ _ #[.int .i64 t.a, .int .i64 t.o, .string t.v] _ _ (heap_ext hzT x3.ext)) x4.ext
            have e4 : Ext w2 x4.val := (e3.setRow hgT _).val x4
            generalize x4.val = w3 at eT e4 ⊢
            clear x4 x3 x1 hzT e3
            have hct3 := fun j => cell_of_row w3 _ j _ _ _ eT
            have lt3 : gT < w3.heap.size := (Array.getElem?_eq_some_iff.1 eT).1
            have hts3 := heap_ext HTS.out e4
            have hcs3 := fun j => cell_of_row w3 _ j _ _ _ hts3
            have ls3 : w1.heap.size < w3.heap.size := (Array.getElem?_eq_some_iff.1 hts3).1
            have hb3 := heap_ext HB2.out e4
            have hcb3 := fun j => cell_of_row w3 _ j _ _ _ hb3
            have lb3 : bW < w3.heap.size := (Array.getElem?_eq_some_iff.1 hb3).1
            have HB3 := Lib.hid hb3
            have HM3 := Lib.hid (HM2.out.ext e4)
            have HH3 := Lib.hid (HH2.out.ext e4)
            have HK3 := Lib.hid (HK2.out.ext e4)
            clear eT hts3 hb3 e4 hcb2 hcs2 HLK
            have hto : (t.o == x.o) = false := by simp [HTO.out]
            go_wp2_with fail
            obtain ⟨l, hll⟩ : ∃ l, (x :: Lt)[Lt.length]? = some l := ⟨_, List.getElem?_eq_getElem (by simp)⟩
            refine (pop_string B bH vc (x :: Lt) Lt.length x l m w3 HH3.out (by omega) (by have := HK3.out.size; omega) rfl (by simp at hl; omega) rfl hll).mono ?_
            rintro e w5 ⟨rfl, v5, hH5, hk5, hr5⟩
            have hpop : downH Lt.length (((x :: Lt).set 0 l).take Lt.length) 0 = popH (x :: Lt) := by
              unfold popH
              simp only [List.length_cons, Nat.add_sub_cancel]
              rw [hll]
            rw [hpop] at hH5
            have hgB := rowB_ge HH3.out
            have nW : bW ∉ bH :: rowB vc := fun h => by
              rcases List.mem_cons.1 h with h | h
              · omega
              · have := hgB _ h; omega
            have nM : bM ∉ bH :: rowB vc := fun h => by
              rcases List.mem_cons.1 h with h | h
              · omega
              · have := hgB _ h; omega
            have HW5 := Lib.hid (show WheelW 101 47 ⟨bM, bH, bW, B, cv, pM, pH, pW⟩ v5 ⟨now, ids, ord, S, popH (x :: Lt), m⟩ w5 from ⟨(hk5.block bW lb3 nW).trans HB3.out, HM3.out.same (hk5.block bM HM3.out.lt nM), hH5⟩)
            have HK5 := Lib.hid (HK3.out.trans (hk5.mono (fun k hk => by rw [HR.out] at hk; exact hk)))
            have HR5 := Lib.hid (hr5.trans HR.out)
            have hl' : (popH (x :: Lt)).length = Lt.length := popH_length
            have hff : firstL S f (x :: Lt) = firstL S (f - 1) (popH (x :: Lt)) := by
              obtain ⟨f', rfl⟩ : ∃ f', f = f' + 1 := ⟨f - 1, by simp at hf; omega⟩
              show (match getT S x.i with | some t => if t.o = x.o then x :: Lt else firstL S f' (popH (x :: Lt)) | none => firstL S f' (popH (x :: Lt))) = _
              rw [HGT.out]; exact if_neg HTO.out
            have HFF := Lib.hid (hff.symm.trans HF.out)
            clear hH5 hk5 hr5 hpop hll hff hcb3 hct3 hcs3 lb3 ls3 lt3
            go_wp2_with fail
            go_roundg (gk - 1)
            case rel => exact ⟨f - 1, popH (x :: Lt), v5, by simp at hg; omega, by simp at hf; omega, by simp at hl; omega, HFF, HW5, HK5, HR5⟩
            case measure => simp at hg; omega
end Go.Proofs.Ytibdplfdmncgiaa

/-
  Plain laws of the heap's list. No condition.
-/
namespace Go.Proofs.Ytibdplfdmncgiaa

theorem ahead_iff (x y : Hd) : aheadH x y = true ↔ x.a < y.a ∨ (x.a = y.a ∧ (x.o < y.o ∨ (x.o = y.o ∧ x.n < y.n))) := by
  unfold aheadH lessH
  simp only [Bool.or_eq_true, Bool.and_eq_true, Bool.not_eq_true', decide_eq_true_eq, Bool.or_eq_false_iff, Bool.and_eq_false_iff, decide_eq_false_iff_not]
  omega
theorem ahead_false (x y : Hd) : aheadH x y = false ↔ ¬ (x.a < y.a ∨ (x.a = y.a ∧ (x.o < y.o ∨ (x.o = y.o ∧ x.n < y.n)))) := by
  rw [← ahead_iff]; simp
/-- x does not come behind y. -/
theorem not_ahead_trans {x y z : Hd} (h1 : aheadH y x = false) (h2 : aheadH z y = false) : aheadH z x = false := by
  rw [ahead_false] at *
  omega
theorem not_ahead_of {x y : Hd} (h : aheadH x y = true) : aheadH y x = false := by
  rw [ahead_iff] at h
  rw [ahead_false]
  omega
theorem not_ahead_self (x : Hd) : aheadH x x = false := by
  rw [ahead_false]; omega

/-- No thing comes ahead of the one above it. -/
def HeapOk (L : List Hd) : Prop := ∀ i x y, 0 < i → L[i]? = some x → L[(i - 1) / 2]? = some y → aheadH x y = false

theorem heap_root {L : List Hd} (h : HeapOk L) {r : Hd} (hr : L[0]? = some r) : ∀ (i : Nat) (x : Hd), L[i]? = some x → aheadH x r = false := by
  intro i
  induction i using Nat.strongRecOn with
  | _ i ih =>
    intro x hx
    by_cases h0 : i = 0
    · subst h0
      rw [hr] at hx
      cases hx
      exact not_ahead_self _
    · have hlt : i < L.length := (List.getElem?_eq_some_iff.1 hx).1
      obtain ⟨y, hy⟩ : ∃ y, L[(i - 1) / 2]? = some y := ⟨_, List.getElem?_eq_getElem (by omega)⟩
      exact not_ahead_trans (ih ((i - 1) / 2) (by omega) y hy) (h i x y (by omega) hx hy)

theorem swap_get {L : List Hd} {i p : Nat} {x y : Hd} (hx : L[i]? = some x) (hy : L[p]? = some y) (hne : i ≠ p) (j : Nat) : (swapH L i p)[j]? = if j = p then some x else if j = i then some y else L[j]? := by
  rw [swapH_eq hx hy]
  have h1 := (List.getElem?_eq_some_iff.1 hx).1
  have h2 := (List.getElem?_eq_some_iff.1 hy).1
  by_cases hp : j = p
  · subst hp
    rw [List.getElem?_set_self (by simpa using h2), if_pos rfl]
  · rw [List.getElem?_set_ne (fun e => hp e.symm), if_neg hp]
    by_cases hi : j = i
    · subst hi
      rw [List.getElem?_set_self h1, if_pos rfl]
    · rw [List.getElem?_set_ne (fun e => hi e.symm), if_neg hi]

theorem swap_perm {L : List Hd} {i p : Nat} : (swapH L i p).Perm L := by
  unfold swapH
  split
  · rename_i x y hx hy
    obtain ⟨h1, h1'⟩ := List.getElem?_eq_some_iff.1 hx
    obtain ⟨h2, h2'⟩ := List.getElem?_eq_some_iff.1 hy
    rw [List.perm_iff_count]
    intro a
    rw [List.count_set (by simpa using h2), List.count_set h1]
    simp only [List.getElem_set]
    by_cases hip : i = p
    · subst hip
      simp only [if_true]
      rw [h1'] at h2'
      subst h2'
      rw [h1']
      have := List.count_pos_iff (a := a) (l := L)
      by_cases hxa : (x == a) = true
      · simp only [hxa, if_true]
        have hm : a ∈ L := by
          have : x = a := by simpa using hxa
          rw [← this, ← h1']; exact List.getElem_mem h1
        have := List.count_pos_iff.2 hm
        omega
      · simp only [hxa, if_false]
        simp
    · rw [if_neg hip, h1', h2']
      have hm : ∀ z, z ∈ L → 0 < L.count z := fun z hz => List.count_pos_iff.2 hz
      have hxm : x ∈ L := by rw [← h1']; exact List.getElem_mem h1
      have hym : y ∈ L := by rw [← h2']; exact List.getElem_mem h2
      by_cases hxa : x = a <;> by_cases hya : y = a
      · subst hxa; subst hya
        have := hm _ hxm
        simp; omega
      · subst hxa
        have := hm _ hxm
        have hya' : (y == x) = false := by simpa using hya
        simp [hya']; omega
      · subst hya
        have := hm _ hym
        have hxa' : (x == y) = false := by simpa using hxa
        simp [hxa']
      · have hxa' : (x == a) = false := by simpa using hxa
        have hya' : (y == a) = false := by simpa using hya
        simp [hxa', hya']
  · exact List.Perm.refl _

/-- The heap's order, but for the thing at i and the one above it. -/
def UpOk (L : List Hd) (i : Nat) : Prop :=
  (∀ j x y, 0 < j → j ≠ i → L[j]? = some x → L[(j - 1) / 2]? = some y → aheadH x y = false) ∧
  (∀ j x y, 0 < j → 0 < i → (j - 1) / 2 = i → L[j]? = some x → L[(i - 1) / 2]? = some y → aheadH x y = false)

theorem up_ok : ∀ (f : Nat) (L : List Hd) (i : Nat), i ≤ f → i < L.length → UpOk L i → HeapOk (upH f L i) ∧ (upH f L i).Perm L
  | 0, L, i, hf, hi, h => by
    have : i = 0 := by omega
    subst this
    refine ⟨fun j x y hj hx hy => h.1 j x y hj (by omega) hx hy, List.Perm.refl _⟩
  | f + 1, L, i, hf, hi, h => by
    obtain ⟨x, hx⟩ : ∃ x, L[i]? = some x := ⟨_, List.getElem?_eq_getElem hi⟩
    obtain ⟨y, hy⟩ : ∃ y, L[(i - 1) / 2]? = some y := ⟨_, List.getElem?_eq_getElem (by omega)⟩
    by_cases hc : 0 < i ∧ aheadH x y = true
    · obtain ⟨h0, hab⟩ := hc
      rw [upH_go hx hy h0 hab hf]
      have hne : i ≠ (i - 1) / 2 := by omega
      have hg := swap_get hx hy hne
      have ih := up_ok f (swapH L i ((i - 1) / 2)) ((i - 1) / 2) (by omega) (by rw [swapH_length]; omega) ⟨?_, ?_⟩
      · exact ⟨ih.1, ih.2.trans swap_perm⟩
      · intro j u v hj hjp hu hv
        rw [hg] at hu hv
        rw [if_neg hjp] at hu
        by_cases hji : j = i
        · subst hji
          rw [if_pos rfl] at hu
          rw [if_pos rfl] at hv
          cases hu; cases hv
          exact not_ahead_of hab
        · rw [if_neg hji] at hu
          by_cases hpj : (j - 1) / 2 = (i - 1) / 2
          · rw [if_pos hpj] at hv
            cases hv
            have := h.1 j u y hj hji hu (by rw [hpj]; exact hy)
            exact not_ahead_trans (not_ahead_of hab) this
          · rw [if_neg hpj] at hv
            by_cases hpi : (j - 1) / 2 = i
            · rw [if_pos hpi] at hv
              cases hv
              exact h.2 j u y hj h0 hpi hu hy
            · rw [if_neg hpi] at hv
              exact h.1 j u v hj hji hu hv
      · intro j u v hj hp0 hpj hu hv
        rw [hg] at hu hv
        have hq : ((i - 1) / 2 - 1) / 2 ≠ (i - 1) / 2 := by omega
        have hq2 : ((i - 1) / 2 - 1) / 2 ≠ i := by omega
        rw [if_neg hq, if_neg hq2] at hv
        have hjp : j ≠ (i - 1) / 2 := by omega
        rw [if_neg hjp] at hu
        have hyv := h.1 ((i - 1) / 2) y v (by omega) (by omega) hy hv
        by_cases hji : j = i
        · rw [if_pos hji] at hu
          cases hu
          exact hyv
        · rw [if_neg hji] at hu
          have := h.1 j u y hj hji hu (by rw [hpj]; exact hy)
          exact not_ahead_trans hyv this
    · have hs : upH (f + 1) L i = L := upH_stop (fun a b ha hb h0 => by
        rw [hx] at ha; rw [hy] at hb; cases ha; cases hb
        cases hh : aheadH x y with
        | false => rfl
        | true => exact absurd ⟨h0, hh⟩ hc)
      rw [hs]
      refine ⟨fun j u v hj hu hv => ?_, List.Perm.refl _⟩
      by_cases hji : j = i
      · subst hji
        rw [hx] at hu; rw [hy] at hv
        cases hu; cases hv
        cases hh : aheadH x y with
        | false => rfl
        | true => exact absurd ⟨hj, hh⟩ hc
      · exact h.1 j u v hj hji hu hv

theorem push_ok {L : List Hd} (h : HeapOk L) (x : Hd) : HeapOk (upH L.length (L ++ [x]) L.length) ∧ (upH L.length (L ++ [x]) L.length).Perm (L ++ [x]) := by
  refine up_ok _ _ _ (Nat.le_refl _) (by simp) ⟨fun j u v hj hne hu hv => ?_, fun j u v hj h0 hp hu hv => ?_⟩
  · have hlt := (List.getElem?_eq_some_iff.1 hu).1
    simp only [List.length_append, List.length_cons, List.length_nil] at hlt
    rw [List.getElem?_append_left (by omega)] at hu hv
    exact h j u v hj hu hv
  · have hlt := (List.getElem?_eq_some_iff.1 hu).1
    simp only [List.length_append, List.length_cons, List.length_nil] at hlt
    omega

def DownOk (L : List Hd) (i : Nat) : Prop :=
  (∀ j x y, 0 < j → (j - 1) / 2 ≠ i → L[j]? = some x → L[(j - 1) / 2]? = some y → aheadH x y = false) ∧
  (∀ j x y, 0 < j → 0 < i → (j - 1) / 2 = i → L[j]? = some x → L[(i - 1) / 2]? = some y → aheadH x y = false)

theorem min_child {L : List Hd} {i : Nat} (h : 2 * i + 1 < L.length) : ∃ k y, Below2 L i k y ∧ (k = 2 * i + 1 ∨ k = 2 * i + 2) ∧ ∀ j u, 0 < j → (j - 1) / 2 = i → L[j]? = some u → aheadH u y = false := by
  obtain ⟨y, hy⟩ : ∃ y, L[2 * i + 1]? = some y := ⟨_, List.getElem?_eq_getElem h⟩
  by_cases h2 : 2 * i + 2 < L.length
  · obtain ⟨z, hz⟩ : ∃ z, L[2 * i + 2]? = some z := ⟨_, List.getElem?_eq_getElem h2⟩
    cases hzy : aheadH z y with
    | true =>
      refine ⟨2 * i + 2, z, ⟨h, hz, .inr ⟨rfl, h2, y, hy, hzy⟩⟩, .inr rfl, fun j u hj hp hu => ?_⟩
      have : j = 2 * i + 1 ∨ j = 2 * i + 2 := by omega
      rcases this with rfl | rfl
      · rw [hy] at hu; cases hu; exact not_ahead_of hzy
      · rw [hz] at hu; cases hu; exact not_ahead_self _
    | false =>
      refine ⟨2 * i + 1, y, ⟨h, hy, .inl ⟨rfl, fun z' _ hz' => by rw [hz] at hz'; cases hz'; exact hzy⟩⟩, .inl rfl, fun j u hj hp hu => ?_⟩
      have : j = 2 * i + 1 ∨ j = 2 * i + 2 := by omega
      rcases this with rfl | rfl
      · rw [hy] at hu; cases hu; exact not_ahead_self _
      · rw [hz] at hu; cases hu; exact hzy
  · refine ⟨2 * i + 1, y, ⟨h, hy, .inl ⟨rfl, fun _ h' _ => absurd h' h2⟩⟩, .inl rfl, fun j u hj hp hu => ?_⟩
    have hlt := (List.getElem?_eq_some_iff.1 hu).1
    have : j = 2 * i + 1 := by omega
    subst this
    rw [hy] at hu; cases hu; exact not_ahead_self _

theorem down_ok : ∀ (f : Nat) (L : List Hd) (i : Nat), i < L.length → L.length ≤ i + f → DownOk L i → HeapOk (downH f L i) ∧ (downH f L i).Perm L
  | 0, L, i, hi, hf, h => by omega
  | f + 1, L, i, hi, hf, h => by
    by_cases hlt : 2 * i + 1 < L.length
    · obtain ⟨x, hx⟩ : ∃ x, L[i]? = some x := ⟨_, List.getElem?_eq_getElem hi⟩
      obtain ⟨k, y, hb, hk, hmin⟩ := min_child hlt
      rw [downH_step hx hb]
      have hky := hb.2.1
      have hkl := (List.getElem?_eq_some_iff.1 hky).1
      cases hab : aheadH y x with
      | true =>
        rw [if_pos rfl]
        have hne : i ≠ k := by omega
        have hg := swap_get hx hky hne
        have ih := down_ok f (swapH L i k) k (by rw [swapH_length]; exact hkl) (by rw [swapH_length]; omega) ⟨?_, ?_⟩
        · exact ⟨ih.1, ih.2.trans swap_perm⟩
        · intro j u v hj hjp hu hv
          rw [hg] at hu hv
          rw [if_neg hjp] at hv
          by_cases hjk : j = k
          · rw [if_pos hjk] at hu
            rw [if_pos (by omega)] at hv
            cases hu; cases hv
            exact not_ahead_of hab
          · rw [if_neg hjk] at hu
            by_cases hji : j = i
            · rw [if_pos hji] at hu
              rw [if_neg (by omega)] at hv
              cases hu
              exact h.2 k y v (by omega) (by omega) (by omega) hky (by rw [← hji]; exact hv)
            · rw [if_neg hji] at hu
              by_cases hpi : (j - 1) / 2 = i
              · rw [if_pos hpi] at hv
                cases hv
                exact hmin j u hj hpi hu
              · rw [if_neg hpi] at hv
                exact h.1 j u v hj hpi hu hv
        · intro j u v hj h0 hp hu hv
          rw [hg] at hu hv
          rw [if_neg (by omega), if_pos (by omega)] at hv
          rw [if_neg (by omega), if_neg (by omega)] at hu
          cases hv
          exact h.1 j u y hj (by omega) hu (by rw [hp]; exact hky)
      | false =>
        rw [if_neg (by simp)]
        refine ⟨fun j u v hj hu hv => ?_, List.Perm.refl _⟩
        by_cases hp : (j - 1) / 2 = i
        · rw [hp, hx] at hv
          cases hv
          exact not_ahead_trans hab (hmin j u hj hp hu)
        · exact h.1 j u v hj hp hu hv
    · rw [downH_out hlt]
      refine ⟨fun j u v hj hu hv => ?_, List.Perm.refl _⟩
      have := (List.getElem?_eq_some_iff.1 hu).1
      exact h.1 j u v hj (by omega) hu hv

theorem pop_ok {x : Hd} {L : List Hd} (h : HeapOk (x :: L)) : HeapOk (popH (x :: L)) ∧ (popH (x :: L)).Perm L := by
  unfold popH
  simp only [List.length_cons, Nat.add_sub_cancel]
  obtain ⟨l, hl⟩ : ∃ l, (x :: L)[L.length]? = some l := ⟨_, List.getElem?_eq_getElem (by simp)⟩
  rw [hl]
  simp only [List.set_cons_zero]
  have hperm : ((l :: L).take L.length).Perm L := by
    cases hL : L.length with
    | zero =>
      have : L = [] := List.length_eq_zero_iff.1 hL
      subst this
      exact List.Perm.refl _
    | succ n =>
      rw [hL] at hl
      rw [List.take_succ_cons]
      have hs : L = L.take n ++ [l] := by
        have h1 : L[n]? = some l := by simpa using hl
        have h2 := List.take_append_drop n L
        have h3 : L.drop n = [l] := by
          rw [List.drop_eq_getElem?_toList_append, h1, List.drop_eq_nil_of_le (by omega)]
          rfl
        rw [h3] at h2
        exact h2.symm
      conv => rhs; rw [hs]
      exact (List.perm_append_singleton _ _).symm
  by_cases h0 : L.length = 0
  · have : L = [] := List.length_eq_zero_iff.1 h0
    subst this
    refine ⟨fun i a b _ ha _ => ?_, List.Perm.refl _⟩
    simp [downH] at ha
  · have hlen : ((l :: L).take L.length).length = L.length := by simp
    have := down_ok L.length ((l :: L).take L.length) 0 (by rw [hlen]; omega) (by rw [hlen]; omega) ⟨fun j u v hj hp hu hv => ?_, fun j u v _ hi _ _ _ => absurd hi (by omega)⟩
    · exact ⟨this.1, this.2.trans hperm⟩
    · have hj2 := (List.getElem?_eq_some_iff.1 hu).1
      rw [hlen] at hj2
      rw [List.getElem?_take_of_lt (by omega)] at hu hv
      obtain ⟨j', rfl⟩ : ∃ j', j = j' + 1 := ⟨j - 1, by omega⟩
      obtain ⟨p', hp'⟩ : ∃ p', (j' + 1 - 1) / 2 = p' + 1 := ⟨(j' + 1 - 1) / 2 - 1, by omega⟩
      rw [hp'] at hv
      rw [List.getElem?_cons_succ] at hu hv
      exact h (j' + 1) u v (by omega) (by rw [List.getElem?_cons_succ]; exact hu) (by rw [hp', List.getElem?_cons_succ]; exact hv)
end Go.Proofs.Ytibdplfdmncgiaa
