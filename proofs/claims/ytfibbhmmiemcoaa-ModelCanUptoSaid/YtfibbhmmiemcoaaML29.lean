/-
  The walk of (*term.Pool).grow. No condition.
-/
import Derived.Test.YtfibbhmmiemcoaaML28
set_option linter.all false
namespace Go.Proofs.Ytfibbhmmiemcoaa
open Go.RowKit
attribute [local go_sem] ExtOf.cell ExtOf.frozen ExtOf.lt ExtOf.le
attribute [local go_sem high] ExtOf.cell2 ExtOf.frozen2 ExtOf.lt2 ExtOf.cell3 ExtOf.frozen3 ExtOf.lt3

/-- What is known of one's own blocks and the pool, between the kids. -/
def GrAt (B pb mb : Nat) (v : Value) (w : World) (L : List Tt) (xrow : Array Value) (nb : Nat) (nrow : Array Value) (kb : Nat) (w' : World) : Prop :=
  ∃ v', PoolAt B pb mb v' L w' ∧ Keeps (pb :: mb :: rowB v) w w' ∧ (∀ g ∈ rowB v', g ∈ rowB v ∨ w.heap.size ≤ g) ∧
    (w.heap.size < nb ∧ nb < kb ∧ w.heap.size ∉ rowB v' ∧ nb ∉ rowB v' ∧ kb ∉ rowB v') ∧
    w'.heap[w.heap.size]? = some (.cells xrow 82 (0, 0)) ∧ w'.heap[nb]? = some (.cells nrow 85 (0, 0)) ∧
    w'.heap[kb]? = some (.cells #[.pointer (some ⟨nb, 5, none⟩), .pointer (some ⟨nb, 6, none⟩)] 153 (0, 0))

section
variable {B pb mb : Nat} {v : Value} {w w' w'' : World} {L L' : List Tt} {xrow nrow : Array Value} {nb kb : Nat}
theorem row_lt {w : World} {B : Nat} {e : TypeId} {size n : Nat} {v : Value} {xs : List Value} (h : w.ownsRow B e size v n xs) : ∀ g ∈ rowB v, g < w.heap.size := by
  intro g hg
  rcases h.2 with ⟨h0, _⟩ | ⟨g', c', cur, h0, _, hh, _⟩
  · subst h0; simp [rowB, Value.ownBlock] at hg
  · subst h0
    simp [rowB, Value.ownBlock] at hg
    subst hg
    exact (Array.getElem?_eq_some_iff.1 hh).1
theorem own_at {w w' : World} {base : Nat} {e : TypeId} {size : Nat} {v : Value} {n : Nat} {xs : List Value} (h : w.ownsRow base e size v n xs) (hk : ∀ k ∈ rowB v, w'.heap[k]? = w.heap[k]?) : w'.ownsRow base e size v n xs := by
  refine ⟨h.1, h.2.imp id ?_⟩
  rintro ⟨g, cap, cur, hv, hb, hg, r⟩
  exact ⟨g, cap, cur, hv, hb, by rw [hk g (by rw [hv]; simp [rowB, Value.ownBlock])]; exact hg, r⟩
theorem GrAt.ext (h : GrAt B pb mb v w L xrow nb nrow kb w') (e : Ext w' w'') : GrAt B pb mb v w L xrow nb nrow kb w'' := by
  obtain ⟨v', h1, h2, h3, h4, h5, h6, h7⟩ := h
  exact ⟨v', h1.ext e, h2.ext e, h3, h4, heap_ext h5 e, heap_ext h6 e, heap_ext h7 e⟩
/-- A kid's term is made: the pool has grown, one's own blocks are as they were. -/
theorem GrAt.step (lo : pb < w.heap.size ∧ mb < w.heap.size) {v' : Value} (h1 : PoolAt B pb mb v' L w') (h2 : Keeps (pb :: mb :: rowB v) w w') (h3 : ∀ g ∈ rowB v', g ∈ rowB v ∨ w.heap.size ≤ g)
    (h4 : w.heap.size < nb ∧ nb < kb ∧ w.heap.size ∉ rowB v' ∧ nb ∉ rowB v' ∧ kb ∉ rowB v') (h5 : w'.heap[w.heap.size]? = some (.cells xrow 82 (0, 0))) (h6 : w'.heap[nb]? = some (.cells nrow 85 (0, 0)))
    (h7 : w'.heap[kb]? = some (.cells #[.pointer (some ⟨nb, 5, none⟩), .pointer (some ⟨nb, 6, none⟩)] 153 (0, 0))) (hp : Pooled B pb mb v' L' w' w'') : GrAt B pb mb v w L' xrow nb nrow kb w'' := by
  obtain ⟨v2, p1, p2, p3⟩ := hp
  have l5 := (Array.getElem?_eq_some_iff.1 h5).1
  have l6 := (Array.getElem?_eq_some_iff.1 h6).1
  have l7 := (Array.getElem?_eq_some_iff.1 h7).1
  have out : ∀ k, w.heap.size ≤ k → k ∉ rowB v' → k ∉ pb :: mb :: rowB v' := fun k hk hn => by
    simp only [List.mem_cons, not_or]
    exact ⟨by omega, by omega, hn⟩
  have out2 : ∀ k, k < w'.heap.size → k ∉ rowB v' → k ∉ rowB v2 := fun k hk hn hm => by
    rcases p3 k hm with h | h
    · exact hn h
    · omega
  refine ⟨v2, p1, ?_, fun g hg => ?_, ⟨h4.1, h4.2.1, out2 _ l5 h4.2.2.1, out2 _ l6 h4.2.2.2.1, out2 _ l7 h4.2.2.2.2⟩, ?_, ?_, ?_⟩
  · refine ⟨p2.os.trans h2.os, p2.tape.trans h2.tape, p2.output.trans h2.output, Nat.le_trans h2.size p2.size, fun k hk hx => ?_⟩
    have hk' := Nat.lt_of_lt_of_le hk h2.size
    refine (p2.block k hk' fun hm => ?_).trans (h2.block k hk hx)
    simp only [List.mem_cons] at hm hx
    rcases hm with e | e | e
    · exact hx (.inl e)
    · exact hx (.inr (.inl e))
    · rcases h3 k e with h | h
      · exact hx (.inr (.inr h))
      · omega
  · rcases p3 g hg with h | h
    · exact h3 g h
    · exact .inr (Nat.le_trans h2.size h)
  · exact (p2.block _ l5 (out _ (Nat.le_refl _) h4.2.2.1)).trans h5
  · exact (p2.block _ l6 (out _ (Nat.le_of_lt h4.1) h4.2.2.2.1)).trans h6
  · exact (p2.block _ l7 (out _ (by omega) h4.2.2.2.2)).trans h7
/-- .. and its number is laid into one's own node. -/
theorem GrAt.set (lo : pb < w.heap.size ∧ mb < w.heap.size) (h : GrAt B pb mb v w L xrow nb nrow kb w') (o : Nat) (u : Value) : GrAt B pb mb v w L xrow nb (nrow.setIfInBounds o u) kb (w'.setCell ⟨nb, o, none⟩ u) := by
  obtain ⟨v', h1, h2, h3, h4, h5, h6, h7⟩ := h
  have oth : ∀ k, k ≠ nb → (w'.setCell ⟨nb, o, none⟩ u).heap[k]? = w'.heap[k]? := fun k hk => cell_other hk
  refine ⟨v', ⟨(oth _ (by omega)).trans h1.head, own_at h1.row (fun k hk => oth k (fun e => h4.2.2.2.1 (e ▸ hk))), h1.map.same (oth _ (by omega)), h1.lo.1, h1.lo.2.1, h1.lo.2.2.1, by simpa using h1.lo.2.2.2⟩, h2.setCell (.inr (Nat.le_of_lt h4.1)) o u, h3, h4, (oth _ (by omega)).trans h5, ?_, (oth _ (by omega)).trans h7⟩
  exact setCell_row h6 u
end

set_option maxRecDepth 100000 in
set_option maxHeartbeats 6400000 in
theorem te_grow0 (B pb mb : Nat) (v : Value) (L Lm : List Tt) (im : Int) (k f t m : Int) (s : ByteArray)  (w : World) (hP : PoolAt B pb mb v L w)
    (hm : ∀ v' w', PoolAt B pb mb v' L w' → Calls Try.prog 33 #[.pointer (some ⟨pb, 0, none⟩), .agg #[.int .i64 k, .int .i64 f, .int .i64 t, .int .u64 m, .string s, .int .i64 0, .int .i64 0]] w' fun e w'' => e = .returned (.tuple #[.int .i64 im, .int .i64 0]) ∧ Pooled B pb mb v' Lm w' w'')
    : Calls Try.prog 57 #[.pointer (some ⟨pb, 0, none⟩), .agg #[.int .i64 k, .int .i64 f, .int .i64 t, .int .u64 m, .string s, .slice none 0 0]] w fun e w'' => e = .returned (.tuple #[.int .i64 im, .int .i64 0]) ∧ Pooled B pb mb v Lm w w'' := by
  have HM := Lib.hid hm
  have lo : Hid (pb < w.heap.size ∧ mb < w.heap.size) := Lib.hid (by have := hP.lo; omega)
  have HP := Lib.hid hP
  clear hm hP  
  go_enter Try.func57, Try.ntmps57
  go_wp2_with fail
  refine (te_nodeOf k f t m s _ _).mono ?_
  rintro e w2 ⟨rfl, hx⟩
  have hx2 := (((Ext.refl w).alloc (.cells #[.int .i64 k, .int .i64 f, .int .i64 t, .int .u64 m, .string s, .slice none 0 0] 82)).trans hx)
  have hr2 := heap_ext (heap_new (w := w) (o := .cells #[.int .i64 k, .int .i64 f, .int .i64 t, .int .u64 m, .string s, .slice none 0 0] 82) rfl) hx
  have HX2 := Lib.hid hx2
  have HR2 := Lib.hid hr2
  have hcl := fun j => cell_of_row w2 _ j _ _ _ hr2
  have lb2 := (Array.getElem?_eq_some_iff.1 hr2).1
  have LB2 := Lib.hid lb2
  clear hx hx2 hr2
  go_wp2_with fail
  have HL : Hid (GrAt B pb mb v w L #[.int .i64 k, .int .i64 f, .int .i64 t, .int .u64 m, .string s, .slice none 0 0] w2.heap.size #[.int .i64 k, .int .i64 f, .int .i64 t, .int .u64 m, .string s, .int .i64 0, .int .i64 0] (w2.heap.size + 1) ((w2.alloc (.cells #[.int .i64 k, .int .i64 f, .int .i64 t, .int .u64 m, .string s, .int .i64 0, .int .i64 0] 85)).alloc (.cells #[.pointer (some ⟨w2.heap.size, 5, none⟩), .pointer (some ⟨w2.heap.size, 6, none⟩)] 153))) := Lib.hid (by
    have e2 := HX2.out
    have e3 := ((Ext.refl w2).alloc (.cells #[.int .i64 k, .int .i64 f, .int .i64 t, .int .u64 m, .string s, .int .i64 0, .int .i64 0] 85)).alloc (.cells #[.pointer (some ⟨w2.heap.size, 5, none⟩), .pointer (some ⟨w2.heap.size, 6, none⟩)] 153)
    have rl := row_lt HP.out.row
    have l2 := LB2.out
    refine ⟨v, HP.out.ext (e2.trans e3), (Keeps.refl _ w).ext (e2.trans e3), fun g hg => .inl hg, ⟨l2, by omega, fun h => by have := rl _ h; omega, fun h => by have := rl _ h; omega, fun h => by have := rl _ h; omega⟩, heap_ext HR2.out e3, heap_ext (heap_new rfl) ((Ext.refl _).alloc _), heap_new (by simp)⟩)
  generalize hW : (w2.alloc (.cells #[.int .i64 k, .int .i64 f, .int .i64 t, .int .u64 m, .string s, .int .i64 0, .int .i64 0] 85)).alloc (.cells #[.pointer (some ⟨w2.heap.size, 5, none⟩), .pointer (some ⟨w2.heap.size, 6, none⟩)] 153) = w3 at HL ⊢
  have hlt : Hid (w.heap.size < w2.heap.size) := LB2
  have hkb : Hid (w2.heap.size + 1 = w2.heap.size + 1) := Lib.hid rfl
  generalize hkk : w2.heap.size + 1 = kb at HL ⊢
  generalize w2.heap.size = nb at HL ⊢
  clear hW hcl lb2 LB2 HX2 HR2 hlt hkb hkk
  try clear w2
  obtain ⟨v3, hp3, hk3, hv3, hl3, hx3, hn3, hq3⟩ := HL.out
  have hcl := fun j => cell_of_row w3 _ j _ _ _ hx3
  have hcn := fun j => cell_of_row w3 _ j _ _ _ hn3
  have hcq := fun j => cell_of_row w3 _ j _ _ _ hq3
  have lx3 := (Array.getElem?_eq_some_iff.1 hx3).1
  have ln3 := (Array.getElem?_eq_some_iff.1 hn3).1
  have lq3 := (Array.getElem?_eq_some_iff.1 hq3).1
  clear hp3 hk3 hv3 hl3 hx3 hn3 hq3
  refine wp_loop_rounds 1 ?_
  rw [rounds_succ]
  go_wp2_with fail
  obtain ⟨v7, hp7, hk7, hv7, hl7, hx7, hn7, hq7⟩ := HL.out
  refine (HM.out v7 _ hp7).mono ?_
  rintro e w8 ⟨rfl, hpl⟩
  have HL8 := Lib.hid (GrAt.step lo.out hp7 hk7 hv7 hl7 hx7 hn7 hq7 hpl)
  clear hp7 hk7 hv7 hl7 hx7 hn7 hq7 hpl
  go_wp2_with fail
  refine bodyPost_ret (results_tmp2 rfl _ _ _) rfl ?_
  obtain ⟨v9, h1, h2, h3, _⟩ := HL8.out
  exact ⟨rfl, v9, h1, h2, h3⟩

set_option maxRecDepth 100000 in
set_option maxHeartbeats 6400000 in
theorem te_grow1 (B pb mb : Nat) (v : Value) (L Lm : List Tt) (im : Int) (k f t m : Int) (s : ByteArray) (k1 f1 t1 m1 : Int) (s1 : ByteArray) (a1 : Option Addr) (n1 e1 : Nat) (i1 : Int) (L1 : List Tt) (g : Nat) (w : World) (hP : PoolAt B pb mb v L w)
    (hk1 : ∀ v' w', PoolAt B pb mb v' L w' → Keeps (pb :: mb :: rowB v) w w' → (∀ g ∈ rowB v', g ∈ rowB v ∨ w.heap.size ≤ g) → Calls Try.prog 57 #[.pointer (some ⟨pb, 0, none⟩), .agg #[.int .i64 k1, .int .i64 f1, .int .i64 t1, .int .u64 m1, .string s1, .slice a1 n1 e1]] w' fun e w'' => e = .returned (.tuple #[.int .i64 i1, .int .i64 0]) ∧ Pooled B pb mb v' L1 w' w'')
    (hm : ∀ v' w', PoolAt B pb mb v' L1 w' → Calls Try.prog 33 #[.pointer (some ⟨pb, 0, none⟩), .agg #[.int .i64 k, .int .i64 f, .int .i64 t, .int .u64 m, .string s, .int .i64 i1, .int .i64 0]] w' fun e w'' => e = .returned (.tuple #[.int .i64 im, .int .i64 0]) ∧ Pooled B pb mb v' Lm w' w'')
    (hg : ∀ w', Keeps (pb :: mb :: rowB v) w w' → ∀ j u, ([.int .i64 k1, .int .i64 f1, .int .i64 t1, .int .u64 m1, .string s1, .slice a1 n1 e1] : List Value)[j]? = some u → w'.cell? ⟨g, j, none⟩ = some u) (hgl : ∀ w', Keeps (pb :: mb :: rowB v) w w' → g < w'.heap.size)
    : Calls Try.prog 57 #[.pointer (some ⟨pb, 0, none⟩), .agg #[.int .i64 k, .int .i64 f, .int .i64 t, .int .u64 m, .string s, .slice (some ⟨g, 0, none⟩) 1 1]] w fun e w'' => e = .returned (.tuple #[.int .i64 im, .int .i64 0]) ∧ Pooled B pb mb v Lm w w'' := by
  have HM := Lib.hid hm
  have lo : Hid (pb < w.heap.size ∧ mb < w.heap.size) := Lib.hid (by have := hP.lo; omega)
  have HP := Lib.hid hP
  have HK1 := Lib.hid hk1
  have HG := Lib.hid hg
  have HGL := Lib.hid hgl
  clear hm hP hk1 hg hgl
  go_enter Try.func57, Try.ntmps57
  go_wp2_with fail
  refine (te_nodeOf k f t m s _ _).mono ?_
  rintro e w2 ⟨rfl, hx⟩
  have hx2 := (((Ext.refl w).alloc (.cells #[.int .i64 k, .int .i64 f, .int .i64 t, .int .u64 m, .string s, .slice (some ⟨g, 0, none⟩) 1 1] 82)).trans hx)
  have hr2 := heap_ext (heap_new (w := w) (o := .cells #[.int .i64 k, .int .i64 f, .int .i64 t, .int .u64 m, .string s, .slice (some ⟨g, 0, none⟩) 1 1] 82) rfl) hx
  have HX2 := Lib.hid hx2
  have HR2 := Lib.hid hr2
  have hcl := fun j => cell_of_row w2 _ j _ _ _ hr2
  have lb2 := (Array.getElem?_eq_some_iff.1 hr2).1
  have LB2 := Lib.hid lb2
  clear hx hx2 hr2
  go_wp2_with fail
  have HL : Hid (GrAt B pb mb v w L #[.int .i64 k, .int .i64 f, .int .i64 t, .int .u64 m, .string s, .slice (some ⟨g, 0, none⟩) 1 1] w2.heap.size #[.int .i64 k, .int .i64 f, .int .i64 t, .int .u64 m, .string s, .int .i64 0, .int .i64 0] (w2.heap.size + 1) ((w2.alloc (.cells #[.int .i64 k, .int .i64 f, .int .i64 t, .int .u64 m, .string s, .int .i64 0, .int .i64 0] 85)).alloc (.cells #[.pointer (some ⟨w2.heap.size, 5, none⟩), .pointer (some ⟨w2.heap.size, 6, none⟩)] 153))) := Lib.hid (by
    have e2 := HX2.out
    have e3 := ((Ext.refl w2).alloc (.cells #[.int .i64 k, .int .i64 f, .int .i64 t, .int .u64 m, .string s, .int .i64 0, .int .i64 0] 85)).alloc (.cells #[.pointer (some ⟨w2.heap.size, 5, none⟩), .pointer (some ⟨w2.heap.size, 6, none⟩)] 153)
    have rl := row_lt HP.out.row
    have l2 := LB2.out
    refine ⟨v, HP.out.ext (e2.trans e3), (Keeps.refl _ w).ext (e2.trans e3), fun g hg => .inl hg, ⟨l2, by omega, fun h => by have := rl _ h; omega, fun h => by have := rl _ h; omega, fun h => by have := rl _ h; omega⟩, heap_ext HR2.out e3, heap_ext (heap_new rfl) ((Ext.refl _).alloc _), heap_new (by simp)⟩)
  generalize hW : (w2.alloc (.cells #[.int .i64 k, .int .i64 f, .int .i64 t, .int .u64 m, .string s, .int .i64 0, .int .i64 0] 85)).alloc (.cells #[.pointer (some ⟨w2.heap.size, 5, none⟩), .pointer (some ⟨w2.heap.size, 6, none⟩)] 153) = w3 at HL ⊢
  have hlt : Hid (w.heap.size < w2.heap.size) := LB2
  have hkb : Hid (w2.heap.size + 1 = w2.heap.size + 1) := Lib.hid rfl
  generalize hkk : w2.heap.size + 1 = kb at HL ⊢
  generalize w2.heap.size = nb at HL ⊢
  clear hW hcl lb2 LB2 HX2 HR2 hlt hkb hkk
  try clear w2
  obtain ⟨v3, hp3, hk3, hv3, hl3, hx3, hn3, hq3⟩ := HL.out
  have hcl := fun j => cell_of_row w3 _ j _ _ _ hx3
  have hcn := fun j => cell_of_row w3 _ j _ _ _ hn3
  have hcq := fun j => cell_of_row w3 _ j _ _ _ hq3
  have lx3 := (Array.getElem?_eq_some_iff.1 hx3).1
  have ln3 := (Array.getElem?_eq_some_iff.1 hn3).1
  have lq3 := (Array.getElem?_eq_some_iff.1 hq3).1
  have hg3 := HG.out _ hk3
  have lg3 := HGL.out _ hk3
  have c0_3 := hg3 0 _ rfl
  have c1_3 := hg3 1 _ rfl
  have c2_3 := hg3 2 _ rfl
  have c3_3 := hg3 3 _ rfl
  have c4_3 := hg3 4 _ rfl
  have c5_3 := hg3 5 _ rfl
  clear hg3
  clear hp3 hk3 hv3 hl3 hx3 hn3 hq3
  refine wp_loop_rounds 2 ?_
  rw [rounds_succ]
  go_wp2_with fail
  have HL' := Lib.hid (HL.out.ext ((Ext.refl _).alloc (.cells #[.int .i64 k1, .int .i64 f1, .int .i64 t1, .int .u64 m1, .string s1, .slice a1 n1 e1] 82)))
  clear HL hcl hcn hcq lx3 ln3 lq3 c0_3 c1_3 c2_3 c3_3 c4_3 c5_3 lg3
  try clear v3
  obtain ⟨v4, hp4, hk4, hv4, hl4, hx4, hn4, hq4⟩ := HL'.out
  refine (HK1.out v4 _ hp4 hk4 hv4).mono ?_
  rintro e w5 ⟨rfl, hpl⟩
  have HL := Lib.hid (GrAt.step lo.out hp4 hk4 hv4 hl4 hx4 hn4 hq4 hpl)
  clear hp4 hk4 hv4 hl4 hx4 hn4 hq4 hpl HL' v4
  obtain ⟨v5, hp5, hk5, hv5, hl5, hx5, hn5, hq5⟩ := HL.out
  have hcl := fun j => cell_of_row w5 _ j _ _ _ hx5
  have hcn := fun j => cell_of_row w5 _ j _ _ _ hn5
  have hfn := fun j => frozen_of_row w5 _ j _ _ hn5
  have hcq := fun j => cell_of_row w5 _ j _ _ _ hq5
  have lx5 := (Array.getElem?_eq_some_iff.1 hx5).1
  have ln5 := (Array.getElem?_eq_some_iff.1 hn5).1
  have lq5 := (Array.getElem?_eq_some_iff.1 hq5).1
  clear hp5 hk5 hv5 hl5 hx5 hn5 hq5
  go_wp2_with fail
  have HL' := Lib.hid (HL.out.set lo.out 5 (.int .i64 i1))
  clear HL hcl hcn hfn hcq lx5 ln5 lq5
  try clear v5
  generalize w5.setCell ⟨nb, 5, none⟩ (.int .i64 i1) = w6 at HL' ⊢
  have HL : Hid (GrAt B pb mb v w L1 #[.int .i64 k, .int .i64 f, .int .i64 t, .int .u64 m, .string s, .slice (some ⟨g, 0, none⟩) 1 1] nb #[.int .i64 k, .int .i64 f, .int .i64 t, .int .u64 m, .string s, .int .i64 i1, .int .i64 0] kb w6) := HL'
  clear HL' w5
  obtain ⟨v6, hp6, hk6, hv6, hl6, hx6, hn6, hq6⟩ := HL.out
  have hcl := fun j => cell_of_row w6 _ j _ _ _ hx6
  have hcn := fun j => cell_of_row w6 _ j _ _ _ hn6
  have hcq := fun j => cell_of_row w6 _ j _ _ _ hq6
  have lx6 := (Array.getElem?_eq_some_iff.1 hx6).1
  have ln6 := (Array.getElem?_eq_some_iff.1 hn6).1
  have lq6 := (Array.getElem?_eq_some_iff.1 hq6).1
  have hg6 := HG.out _ hk6
  have lg6 := HGL.out _ hk6
  have c0_6 := hg6 0 _ rfl
  have c1_6 := hg6 1 _ rfl
  have c2_6 := hg6 2 _ rfl
  have c3_6 := hg6 3 _ rfl
  have c4_6 := hg6 4 _ rfl
  have c5_6 := hg6 5 _ rfl
  clear hg6 hp6 hk6 hv6 hl6 hx6 hn6 hq6
  refine Eq.mpr (rounds_succ (n := 0)) ?_
  go_wp2_with fail
  obtain ⟨v7, hp7, hk7, hv7, hl7, hx7, hn7, hq7⟩ := HL.out
  refine (HM.out v7 _ hp7).mono ?_
  rintro e w8 ⟨rfl, hpl⟩
  have HL8 := Lib.hid (GrAt.step lo.out hp7 hk7 hv7 hl7 hx7 hn7 hq7 hpl)
  clear hp7 hk7 hv7 hl7 hx7 hn7 hq7 hpl
  go_wp2_with fail
  refine bodyPost_ret (results_tmp2 rfl _ _ _) rfl ?_
  obtain ⟨v9, h1, h2, h3, _⟩ := HL8.out
  exact ⟨rfl, v9, h1, h2, h3⟩

set_option maxRecDepth 100000 in
set_option maxHeartbeats 6400000 in
theorem te_grow2 (B pb mb : Nat) (v : Value) (L Lm : List Tt) (im : Int) (k f t m : Int) (s : ByteArray) (k1 f1 t1 m1 : Int) (s1 : ByteArray) (a1 : Option Addr) (n1 e1 : Nat) (i1 : Int) (L1 : List Tt) (k2 f2 t2 m2 : Int) (s2 : ByteArray) (a2 : Option Addr) (n2 e2 : Nat) (i2 : Int) (L2 : List Tt) (g : Nat) (w : World) (hP : PoolAt B pb mb v L w)
    (hk1 : ∀ v' w', PoolAt B pb mb v' L w' → Keeps (pb :: mb :: rowB v) w w' → (∀ g ∈ rowB v', g ∈ rowB v ∨ w.heap.size ≤ g) → Calls Try.prog 57 #[.pointer (some ⟨pb, 0, none⟩), .agg #[.int .i64 k1, .int .i64 f1, .int .i64 t1, .int .u64 m1, .string s1, .slice a1 n1 e1]] w' fun e w'' => e = .returned (.tuple #[.int .i64 i1, .int .i64 0]) ∧ Pooled B pb mb v' L1 w' w'')
    (hk2 : ∀ v' w', PoolAt B pb mb v' L1 w' → Keeps (pb :: mb :: rowB v) w w' → (∀ g ∈ rowB v', g ∈ rowB v ∨ w.heap.size ≤ g) → Calls Try.prog 57 #[.pointer (some ⟨pb, 0, none⟩), .agg #[.int .i64 k2, .int .i64 f2, .int .i64 t2, .int .u64 m2, .string s2, .slice a2 n2 e2]] w' fun e w'' => e = .returned (.tuple #[.int .i64 i2, .int .i64 0]) ∧ Pooled B pb mb v' L2 w' w'')
    (hm : ∀ v' w', PoolAt B pb mb v' L2 w' → Calls Try.prog 33 #[.pointer (some ⟨pb, 0, none⟩), .agg #[.int .i64 k, .int .i64 f, .int .i64 t, .int .u64 m, .string s, .int .i64 i1, .int .i64 i2]] w' fun e w'' => e = .returned (.tuple #[.int .i64 im, .int .i64 0]) ∧ Pooled B pb mb v' Lm w' w'')
    (hg : ∀ w', Keeps (pb :: mb :: rowB v) w w' → ∀ j u, ([.int .i64 k1, .int .i64 f1, .int .i64 t1, .int .u64 m1, .string s1, .slice a1 n1 e1 , .int .i64 k2, .int .i64 f2, .int .i64 t2, .int .u64 m2, .string s2, .slice a2 n2 e2] : List Value)[j]? = some u → w'.cell? ⟨g, j, none⟩ = some u) (hgl : ∀ w', Keeps (pb :: mb :: rowB v) w w' → g < w'.heap.size)
    : Calls Try.prog 57 #[.pointer (some ⟨pb, 0, none⟩), .agg #[.int .i64 k, .int .i64 f, .int .i64 t, .int .u64 m, .string s, .slice (some ⟨g, 0, none⟩) 2 2]] w fun e w'' => e = .returned (.tuple #[.int .i64 im, .int .i64 0]) ∧ Pooled B pb mb v Lm w w'' := by
  have HM := Lib.hid hm
  have lo : Hid (pb < w.heap.size ∧ mb < w.heap.size) := Lib.hid (by have := hP.lo; omega)
  have HP := Lib.hid hP
  have HK1 := Lib.hid hk1
  have HK2 := Lib.hid hk2
  have HG := Lib.hid hg
  have HGL := Lib.hid hgl
  clear hm hP hk1 hk2 hg hgl
  go_enter Try.func57, Try.ntmps57
  go_wp2_with fail
  refine (te_nodeOf k f t m s _ _).mono ?_
  rintro e w2 ⟨rfl, hx⟩
  have hx2 := (((Ext.refl w).alloc (.cells #[.int .i64 k, .int .i64 f, .int .i64 t, .int .u64 m, .string s, .slice (some ⟨g, 0, none⟩) 2 2] 82)).trans hx)
  have hr2 := heap_ext (heap_new (w := w) (o := .cells #[.int .i64 k, .int .i64 f, .int .i64 t, .int .u64 m, .string s, .slice (some ⟨g, 0, none⟩) 2 2] 82) rfl) hx
  have HX2 := Lib.hid hx2
  have HR2 := Lib.hid hr2
  have hcl := fun j => cell_of_row w2 _ j _ _ _ hr2
  have lb2 := (Array.getElem?_eq_some_iff.1 hr2).1
  have LB2 := Lib.hid lb2
  clear hx hx2 hr2
  go_wp2_with fail
  have HL : Hid (GrAt B pb mb v w L #[.int .i64 k, .int .i64 f, .int .i64 t, .int .u64 m, .string s, .slice (some ⟨g, 0, none⟩) 2 2] w2.heap.size #[.int .i64 k, .int .i64 f, .int .i64 t, .int .u64 m, .string s, .int .i64 0, .int .i64 0] (w2.heap.size + 1) ((w2.alloc (.cells #[.int .i64 k, .int .i64 f, .int .i64 t, .int .u64 m, .string s, .int .i64 0, .int .i64 0] 85)).alloc (.cells #[.pointer (some ⟨w2.heap.size, 5, none⟩), .pointer (some ⟨w2.heap.size, 6, none⟩)] 153))) := Lib.hid (by
    have e2 := HX2.out
    have e3 := ((Ext.refl w2).alloc (.cells #[.int .i64 k, .int .i64 f, .int .i64 t, .int .u64 m, .string s, .int .i64 0, .int .i64 0] 85)).alloc (.cells #[.pointer (some ⟨w2.heap.size, 5, none⟩), .pointer (some ⟨w2.heap.size, 6, none⟩)] 153)
    have rl := row_lt HP.out.row
    have l2 := LB2.out
    refine ⟨v, HP.out.ext (e2.trans e3), (Keeps.refl _ w).ext (e2.trans e3), fun g hg => .inl hg, ⟨l2, by omega, fun h => by have := rl _ h; omega, fun h => by have := rl _ h; omega, fun h => by have := rl _ h; omega⟩, heap_ext HR2.out e3, heap_ext (heap_new rfl) ((Ext.refl _).alloc _), heap_new (by simp)⟩)
  generalize hW : (w2.alloc (.cells #[.int .i64 k, .int .i64 f, .int .i64 t, .int .u64 m, .string s, .int .i64 0, .int .i64 0] 85)).alloc (.cells #[.pointer (some ⟨w2.heap.size, 5, none⟩), .pointer (some ⟨w2.heap.size, 6, none⟩)] 153) = w3 at HL ⊢
  have hlt : Hid (w.heap.size < w2.heap.size) := LB2
  have hkb : Hid (w2.heap.size + 1 = w2.heap.size + 1) := Lib.hid rfl
  generalize hkk : w2.heap.size + 1 = kb at HL ⊢
  generalize w2.heap.size = nb at HL ⊢
  clear hW hcl lb2 LB2 HX2 HR2 hlt hkb hkk
  try clear w2
  obtain ⟨v3, hp3, hk3, hv3, hl3, hx3, hn3, hq3⟩ := HL.out
  have hcl := fun j => cell_of_row w3 _ j _ _ _ hx3
  have hcn := fun j => cell_of_row w3 _ j _ _ _ hn3
  have hcq := fun j => cell_of_row w3 _ j _ _ _ hq3
  have lx3 := (Array.getElem?_eq_some_iff.1 hx3).1
  have ln3 := (Array.getElem?_eq_some_iff.1 hn3).1
  have lq3 := (Array.getElem?_eq_some_iff.1 hq3).1
  have hg3 := HG.out _ hk3
  have lg3 := HGL.out _ hk3
  have c0_3 := hg3 0 _ rfl
  have c1_3 := hg3 1 _ rfl
  have c2_3 := hg3 2 _ rfl
  have c3_3 := hg3 3 _ rfl
  have c4_3 := hg3 4 _ rfl
  have c5_3 := hg3 5 _ rfl
  have c6_3 := hg3 6 _ rfl
  have c7_3 := hg3 7 _ rfl
  have c8_3 := hg3 8 _ rfl
  have c9_3 := hg3 9 _ rfl
  have c10_3 := hg3 10 _ rfl
  have c11_3 := hg3 11 _ rfl
  clear hg3
  clear hp3 hk3 hv3 hl3 hx3 hn3 hq3
  refine wp_loop_rounds 3 ?_
  rw [rounds_succ]
  go_wp2_with fail
  have HL' := Lib.hid (HL.out.ext ((Ext.refl _).alloc (.cells #[.int .i64 k1, .int .i64 f1, .int .i64 t1, .int .u64 m1, .string s1, .slice a1 n1 e1] 82)))
  clear HL hcl hcn hcq lx3 ln3 lq3 c0_3 c1_3 c2_3 c3_3 c4_3 c5_3 c6_3 c7_3 c8_3 c9_3 c10_3 c11_3 lg3
  try clear v3
  obtain ⟨v4, hp4, hk4, hv4, hl4, hx4, hn4, hq4⟩ := HL'.out
  refine (HK1.out v4 _ hp4 hk4 hv4).mono ?_
  rintro e w5 ⟨rfl, hpl⟩
  have HL := Lib.hid (GrAt.step lo.out hp4 hk4 hv4 hl4 hx4 hn4 hq4 hpl)
  clear hp4 hk4 hv4 hl4 hx4 hn4 hq4 hpl HL' v4
  obtain ⟨v5, hp5, hk5, hv5, hl5, hx5, hn5, hq5⟩ := HL.out
  have hcl := fun j => cell_of_row w5 _ j _ _ _ hx5
  have hcn := fun j => cell_of_row w5 _ j _ _ _ hn5
  have hfn := fun j => frozen_of_row w5 _ j _ _ hn5
  have hcq := fun j => cell_of_row w5 _ j _ _ _ hq5
  have lx5 := (Array.getElem?_eq_some_iff.1 hx5).1
  have ln5 := (Array.getElem?_eq_some_iff.1 hn5).1
  have lq5 := (Array.getElem?_eq_some_iff.1 hq5).1
  clear hp5 hk5 hv5 hl5 hx5 hn5 hq5
  go_wp2_with fail
  have HL' := Lib.hid (HL.out.set lo.out 5 (.int .i64 i1))
  clear HL hcl hcn hfn hcq lx5 ln5 lq5
  try clear v5
  generalize w5.setCell ⟨nb, 5, none⟩ (.int .i64 i1) = w6 at HL' ⊢
  have HL : Hid (GrAt B pb mb v w L1 #[.int .i64 k, .int .i64 f, .int .i64 t, .int .u64 m, .string s, .slice (some ⟨g, 0, none⟩) 2 2] nb #[.int .i64 k, .int .i64 f, .int .i64 t, .int .u64 m, .string s, .int .i64 i1, .int .i64 0] kb w6) := HL'
  clear HL' w5
  obtain ⟨v6, hp6, hk6, hv6, hl6, hx6, hn6, hq6⟩ := HL.out
  have hcl := fun j => cell_of_row w6 _ j _ _ _ hx6
  have hcn := fun j => cell_of_row w6 _ j _ _ _ hn6
  have hcq := fun j => cell_of_row w6 _ j _ _ _ hq6
  have lx6 := (Array.getElem?_eq_some_iff.1 hx6).1
  have ln6 := (Array.getElem?_eq_some_iff.1 hn6).1
  have lq6 := (Array.getElem?_eq_some_iff.1 hq6).1
  have hg6 := HG.out _ hk6
  have lg6 := HGL.out _ hk6
  have c0_6 := hg6 0 _ rfl
  have c1_6 := hg6 1 _ rfl
  have c2_6 := hg6 2 _ rfl
  have c3_6 := hg6 3 _ rfl
  have c4_6 := hg6 4 _ rfl
  have c5_6 := hg6 5 _ rfl
  have c6_6 := hg6 6 _ rfl
  have c7_6 := hg6 7 _ rfl
  have c8_6 := hg6 8 _ rfl
  have c9_6 := hg6 9 _ rfl
  have c10_6 := hg6 10 _ rfl
  have c11_6 := hg6 11 _ rfl
  clear hg6 hp6 hk6 hv6 hl6 hx6 hn6 hq6
  refine Eq.mpr (rounds_succ (n := 1)) ?_
  go_wp2_with fail
  have HL' := Lib.hid (HL.out.ext ((Ext.refl _).alloc (.cells #[.int .i64 k2, .int .i64 f2, .int .i64 t2, .int .u64 m2, .string s2, .slice a2 n2 e2] 82)))
  clear HL hcl hcn hcq lx6 ln6 lq6 c0_6 c1_6 c2_6 c3_6 c4_6 c5_6 c6_6 c7_6 c8_6 c9_6 c10_6 c11_6 lg6
  try clear v6
  obtain ⟨v4, hp4, hk4, hv4, hl4, hx4, hn4, hq4⟩ := HL'.out
  refine (HK2.out v4 _ hp4 hk4 hv4).mono ?_
  rintro e w5 ⟨rfl, hpl⟩
  have HL := Lib.hid (GrAt.step lo.out hp4 hk4 hv4 hl4 hx4 hn4 hq4 hpl)
  clear hp4 hk4 hv4 hl4 hx4 hn4 hq4 hpl HL' v4
  obtain ⟨v5, hp5, hk5, hv5, hl5, hx5, hn5, hq5⟩ := HL.out
  have hcl := fun j => cell_of_row w5 _ j _ _ _ hx5
  have hcn := fun j => cell_of_row w5 _ j _ _ _ hn5
  have hfn := fun j => frozen_of_row w5 _ j _ _ hn5
  have hcq := fun j => cell_of_row w5 _ j _ _ _ hq5
  have lx5 := (Array.getElem?_eq_some_iff.1 hx5).1
  have ln5 := (Array.getElem?_eq_some_iff.1 hn5).1
  have lq5 := (Array.getElem?_eq_some_iff.1 hq5).1
  clear hp5 hk5 hv5 hl5 hx5 hn5 hq5
  go_wp2_with fail
  have HL' := Lib.hid (HL.out.set lo.out 6 (.int .i64 i2))
  clear HL hcl hcn hfn hcq lx5 ln5 lq5
  try clear v5
  generalize w5.setCell ⟨nb, 6, none⟩ (.int .i64 i2) = w6 at HL' ⊢
  have HL : Hid (GrAt B pb mb v w L2 #[.int .i64 k, .int .i64 f, .int .i64 t, .int .u64 m, .string s, .slice (some ⟨g, 0, none⟩) 2 2] nb #[.int .i64 k, .int .i64 f, .int .i64 t, .int .u64 m, .string s, .int .i64 i1, .int .i64 i2] kb w6) := HL'
  clear HL' w5
  obtain ⟨v6, hp6, hk6, hv6, hl6, hx6, hn6, hq6⟩ := HL.out
  have hcl := fun j => cell_of_row w6 _ j _ _ _ hx6
  have hcn := fun j => cell_of_row w6 _ j _ _ _ hn6
  have hcq := fun j => cell_of_row w6 _ j _ _ _ hq6
  have lx6 := (Array.getElem?_eq_some_iff.1 hx6).1
  have ln6 := (Array.getElem?_eq_some_iff.1 hn6).1
  have lq6 := (Array.getElem?_eq_some_iff.1 hq6).1
  have hg6 := HG.out _ hk6
  have lg6 := HGL.out _ hk6
  have c0_6 := hg6 0 _ rfl
  have c1_6 := hg6 1 _ rfl
  have c2_6 := hg6 2 _ rfl
  have c3_6 := hg6 3 _ rfl
  have c4_6 := hg6 4 _ rfl
  have c5_6 := hg6 5 _ rfl
  have c6_6 := hg6 6 _ rfl
  have c7_6 := hg6 7 _ rfl
  have c8_6 := hg6 8 _ rfl
  have c9_6 := hg6 9 _ rfl
  have c10_6 := hg6 10 _ rfl
  have c11_6 := hg6 11 _ rfl
  clear hg6 hp6 hk6 hv6 hl6 hx6 hn6 hq6
  refine Eq.mpr (rounds_succ (n := 0)) ?_
  go_wp2_with fail
  obtain ⟨v7, hp7, hk7, hv7, hl7, hx7, hn7, hq7⟩ := HL.out
  refine (HM.out v7 _ hp7).mono ?_
  rintro e w8 ⟨rfl, hpl⟩
  have HL8 := Lib.hid (GrAt.step lo.out hp7 hk7 hv7 hl7 hx7 hn7 hq7 hpl)
  clear hp7 hk7 hv7 hl7 hx7 hn7 hq7 hpl
  go_wp2_with fail
  refine bodyPost_ret (results_tmp2 rfl _ _ _) rfl ?_
  obtain ⟨v9, h1, h2, h3, _⟩ := HL8.out
  exact ⟨rfl, v9, h1, h2, h3⟩
end Go.Proofs.Ytfibbhmmiemcoaa
