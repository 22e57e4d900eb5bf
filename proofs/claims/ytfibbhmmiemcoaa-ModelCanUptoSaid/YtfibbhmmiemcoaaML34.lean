/-
  What Proof knows while it goes: its two maps, its list; plain laws of them. No condition.
-/
import Derived.Test.YtfibbhmmiemcoaaML33
set_option linter.all false
namespace Go.Proofs.Ytfibbhmmiemcoaa
open Go.RowKit

/-- The closure says, whose variables lie from block C on. -/
def sayV (C : Nat) : Value := .func (.func 69) #[] #[.pointer (some ⟨C + 3, 0, none⟩), .pointer (some ⟨C + 5, 0, none⟩), .pointer (some ⟨C, 0, none⟩), .pointer (some ⟨C + 6, 0, none⟩), .pointer (some ⟨C + 1, 0, none⟩)]

structure SaysAt (C B pb mb kb sb : Nat) (v gv lv : Value) (L G K : List Tt) (W : List (Int × Int)) (S1 S2 : List (Int × Value)) (rv : Value) (n : Nat) (xs : List Value) (w : World) : Prop where
  st : StAt B pb mb kb sb v gv lv L G K W w
  hk : w.heap[C]? = some (.cells #[.pointer (some ⟨kb, 0, none⟩)] 42 (0, 0))
  hl : w.heap[C + 1]? = some (.cells #[rv] 93 (0, 0))
  m1 : MapG ikV (C + 2) S1 w
  ha : w.heap[C + 3]? = some (.cells #[.map (some (C + 2))] 136 (0, 0))
  m2 : MapG ikV (C + 4) S2 w
  hb : w.heap[C + 5]? = some (.cells #[.map (some (C + 4))] 137 (0, 0))
  hs : w.heap[C + 6]? = some (.cells #[sayV C] 138 (0, 0))
  row : w.ownsRow (C + 7) 141 4 rv n xs
  lo : pb < C ∧ mb < C ∧ kb < C ∧ sb < C ∧ (∀ g ∈ rowB v ++ (rowB gv ++ rowB lv), g < C) ∧ C + 7 ≤ w.heap.size

/-- Is a term derived, of what is seen? -/
def derK (K : List Tt) (t : Tt) : Bool := derT (fun u => decide (u ∈ K)) t
def InvA (L K : List Tt) (S : List (Int × Value)) : Prop := ∀ t ∈ L, ∀ v, getM S (idT L t : Int) = some v → (∃ i : Int, v = .int .i64 i) ∧ derK K t = true
def InvB (L K : List Tt) (S : List (Int × Value)) : Prop := ∀ t ∈ L, ∀ v, getM S (idT L t : Int) = some v → v = .bool true ∧ derK K t = false
def SaysInv (C B pb mb kb sb : Nat) (v gv lv : Value) (L G K : List Tt) (W : List (Int × Int)) (rv : Value) (n : Nat) (w : World) : Prop :=
  ∃ S1 S2 xs, SaysAt C B pb mb kb sb v gv lv L G K W S1 S2 rv n xs w ∧ InvA L K S1 ∧ InvB L K S2
/-- Behind says: the answer; what is known; what was changed. -/
def SaysPost (C B pb mb kb sb : Nat) (v gv lv : Value) (L G K : List Tt) (W : List (Int × Int)) (b : Bool) (d : Nat) (rv : Value) (n : Nat) (w : World) (e : Ending) (w' : World) : Prop :=
  ∃ (i : Int) (rv' : Value) (n' : Nat), e = .returned (.tuple #[.int .i64 i, .bool b]) ∧ SaysInv C B pb mb kb sb v gv lv L G K W rv' n' w' ∧ Keeps ((C + 1) :: (C + 2) :: (C + 4) :: rowB rv) w w' ∧ (∀ g ∈ rowB rv', g ∈ rowB rv ∨ w.heap.size ≤ g) ∧ n' ≤ n + d

theorem getM_put (S : List (Int × Value)) (x y : Int) (v : Value) : getM (putM S x v) y = if y = x then some v else getM S y := by
  unfold putM
  split
  · rename_i j hj
    obtain ⟨hlt, h1, h2⟩ := List.findIdx?_eq_some_iff_getElem.1 hj
    have hx : S[j].1 = x := by simpa using h1
    unfold getM
    by_cases hy : y = x
    · subst hy
      rw [if_pos rfl]
      have : (S.set j (y, v)).find? (fun p => decide (p.1 = y)) = some (y, v) := by
        rw [List.find?_eq_some_iff_getElem]
        refine ⟨by simp, j, by simpa using hlt, by simp, fun k hk => ?_⟩
        have hk2 := h2 k hk
        rw [List.getElem_set_ne (by omega)]
        simpa using hk2
      rw [this]; rfl
    · rw [if_neg hy]
      congr 1
      clear h1 hj
      induction S generalizing j with
      | nil => simp at hlt
      | cons p S ih =>
        cases j with
        | zero =>
          simp only [List.getElem_cons_zero] at hx
          simp only [List.set_cons_zero, List.find?_cons]
          rw [decide_eq_false (fun e => hy e.symm), decide_eq_false (fun e => hy (e.symm.trans hx))]
        | succ j =>
          simp only [List.set_cons_succ, List.find?_cons]
          rw [ih j (by simpa using hlt) (fun k hk => by have := h2 (k + 1) (by omega); simpa using this) (by simpa using hx)]
  · rename_i hj
    rw [List.findIdx?_eq_none_iff] at hj
    unfold getM
    rw [List.find?_append]
    by_cases hy : y = x
    · subst hy
      have : S.find? (fun p => decide (p.1 = y)) = none := by
        rw [List.find?_eq_none]
        intro p hp
        have := hj p hp
        simpa using this
      rw [this, if_pos rfl]
      simp
    · rw [if_neg hy]
      have : ([(x, v)] : List (Int × Value)).find? (fun p => decide (p.1 = y)) = none := by
        have hy2 : ¬ x = y := fun e => hy e.symm
        simp [hy2]
      rw [this]
      simp

theorem InvA.put {L K : List Tt} {S : List (Int × Value)} {t : Tt} {i : Int} (h : InvA L K S) (ht : t ∈ L) (hd : derK K t = true) : InvA L K (putM S (idT L t : Int) (.int .i64 i)) := by
  intro u hu v hv
  rw [getM_put] at hv
  split at hv
  · rename_i e
    rw [idT_injI hu ht e]
    cases hv
    exact ⟨⟨i, rfl⟩, hd⟩
  · exact h u hu v hv
theorem InvB.put {L K : List Tt} {S : List (Int × Value)} {t : Tt} (h : InvB L K S) (ht : t ∈ L) (hd : derK K t = false) : InvB L K (putM S (idT L t : Int) (.bool true)) := by
  intro u hu v hv
  rw [getM_put] at hv
  split at hv
  · rename_i e
    rw [idT_injI hu ht e]
    cases hv
    exact ⟨rfl, hd⟩
  · exact h u hu v hv

section
variable {C B pb mb kb sb : Nat} {v gv lv : Value} {L G K : List Tt} {W : List (Int × Int)} {S1 S2 : List (Int × Value)} {rv : Value} {n : Nat} {xs : List Value} {w w' w'' : World}
theorem SaysAt.ext (h : SaysAt C B pb mb kb sb v gv lv L G K W S1 S2 rv n xs w) (e : Ext w w') : SaysAt C B pb mb kb sb v gv lv L G K W S1 S2 rv n xs w' :=
  ⟨h.st.ext e, heap_ext h.hk e, heap_ext h.hl e, h.m1.ext e, heap_ext h.ha e, h.m2.ext e, heap_ext h.hb e, heap_ext h.hs e, own_ext h.row e, h.lo.1, h.lo.2.1, h.lo.2.2.1, h.lo.2.2.2.1, h.lo.2.2.2.2.1, Nat.le_trans h.lo.2.2.2.2.2 e.size⟩
/-- What lies below C stays. -/
theorem StAt.below (h : StAt B pb mb kb sb v gv lv L G K W w) (lo : pb < C ∧ mb < C ∧ kb < C ∧ sb < C ∧ (∀ g ∈ rowB v ++ (rowB gv ++ rowB lv), g < C)) (hb : ∀ k, k < C → w'.heap[k]? = w.heap[k]?) (hz : w.heap.size ≤ w'.heap.size) : StAt B pb mb kb sb v gv lv L G K W w' := by
  obtain ⟨l1, l2, l3, l4, l5⟩ := lo
  refine ⟨⟨(hb _ l1).trans h.pool.head, own_at h.pool.row fun k hk => hb k (l5 k (by simp [hk])), h.pool.map.same (hb _ l2), h.pool.lo.1, h.pool.lo.2.1, h.pool.lo.2.2.1, Nat.le_trans h.pool.lo.2.2.2 hz⟩,
    ⟨(hb _ l3).trans h.know.head, own_at h.know.given fun k hk => hb k (l5 k (by simp [hk])), own_at h.know.list fun k hk => hb k (l5 k (by simp [hk])), h.know.map.same (hb _ l4), ⟨h.know.lo.1, h.know.lo.2.1, h.know.lo.2.2.1, Nat.le_trans h.know.lo.2.2.2 hz⟩, h.know.dis, h.know.len⟩, h.ne, h.dv, h.ok, h.KL, h.GL, h.nd, h.way⟩
/-- The at map is updated. -/
theorem SaysAt.put1 (h : SaysAt C B pb mb kb sb v gv lv L G K W S1 S2 rv n xs w) {S : List (Int × Value)} {ob : Obj} (hm : MapG ikV (C + 2) S (setB w (C + 2) ob)) : SaysAt C B pb mb kb sb v gv lv L G K W S S2 rv n xs (setB w (C + 2) ob) := by
  have o : ∀ k, k ≠ C + 2 → (setB w (C + 2) ob).heap[k]? = w.heap[k]? := fun k hk => setB_other hk
  refine ⟨h.st.below (C := C) ⟨h.lo.1, h.lo.2.1, h.lo.2.2.1, h.lo.2.2.2.1, h.lo.2.2.2.2.1⟩ (fun k hk => o k (by omega)) (by simp [setB]), (o _ (by omega)).trans h.hk, (o _ (by omega)).trans h.hl, hm, (o _ (by omega)).trans h.ha, h.m2.same (o _ (by omega)), (o _ (by omega)).trans h.hb, (o _ (by omega)).trans h.hs, own_same h.row (fun k hk _ => o k (by omega)), h.lo.1, h.lo.2.1, h.lo.2.2.1, h.lo.2.2.2.1, h.lo.2.2.2.2.1, by simpa [setB] using h.lo.2.2.2.2.2⟩
theorem SaysAt.put2 (h : SaysAt C B pb mb kb sb v gv lv L G K W S1 S2 rv n xs w) {S : List (Int × Value)} {ob : Obj} (hm : MapG ikV (C + 4) S (setB w (C + 4) ob)) : SaysAt C B pb mb kb sb v gv lv L G K W S1 S rv n xs (setB w (C + 4) ob) := by
  have o : ∀ k, k ≠ C + 4 → (setB w (C + 4) ob).heap[k]? = w.heap[k]? := fun k hk => setB_other hk
  refine ⟨h.st.below (C := C) ⟨h.lo.1, h.lo.2.1, h.lo.2.2.1, h.lo.2.2.2.1, h.lo.2.2.2.2.1⟩ (fun k hk => o k (by omega)) (by simp [setB]), (o _ (by omega)).trans h.hk, (o _ (by omega)).trans h.hl, h.m1.same (o _ (by omega)), (o _ (by omega)).trans h.ha, hm, (o _ (by omega)).trans h.hb, (o _ (by omega)).trans h.hs, own_same h.row (fun k hk _ => o k (by omega)), h.lo.1, h.lo.2.1, h.lo.2.2.1, h.lo.2.2.2.1, h.lo.2.2.2.2.1, by simpa [setB] using h.lo.2.2.2.2.2⟩
/-- A cell of one's own is set. -/
theorem SaysAt.own (h : SaysAt C B pb mb kb sb v gv lv L G K W S1 S2 rv n xs w) {g : Nat} (hg : C + 7 ≤ g) (hr : g ∉ rowB rv) (o : Nat) (u : Value) : SaysAt C B pb mb kb sb v gv lv L G K W S1 S2 rv n xs (w.setCell ⟨g, o, none⟩ u) := by
  have ot : ∀ k, k ≠ g → (w.setCell ⟨g, o, none⟩ u).heap[k]? = w.heap[k]? := fun k hk => cell_other hk
  refine ⟨h.st.below (C := C) ⟨h.lo.1, h.lo.2.1, h.lo.2.2.1, h.lo.2.2.2.1, h.lo.2.2.2.2.1⟩ (fun k hk => ot k (by omega)) (by simp), (ot _ (by omega)).trans h.hk, (ot _ (by omega)).trans h.hl, h.m1.same (ot _ (by omega)), (ot _ (by omega)).trans h.ha, h.m2.same (ot _ (by omega)), (ot _ (by omega)).trans h.hb, (ot _ (by omega)).trans h.hs, own_at h.row (fun k hk => ot k (fun e => hr (e ▸ hk))), h.lo.1, h.lo.2.1, h.lo.2.2.1, h.lo.2.2.2.1, h.lo.2.2.2.2.1, by simpa using h.lo.2.2.2.2.2⟩
/-- A step is laid behind the others. -/
theorem SaysAt.app (h : SaysAt C B pb mb kb sb v gv lv L G K W S1 S2 rv n xs w) {rv' : Value} {n' : Nat} {xs' : List Value} (blk : ∀ k, k < w.heap.size → k ∉ rowB rv → w'.heap[k]? = w.heap[k]?) (hz : w.heap.size ≤ w'.heap.size) (o : w'.ownsRow (C + 7) 141 4 rv' n' xs') : SaysAt C B pb mb kb sb v gv lv L G K W S1 S2 rv' n' xs' (w'.setCell ⟨C + 1, 0, none⟩ rv') := by
  have hr := row_lo h.row
  have b : ∀ k, k < C + 7 → w'.heap[k]? = w.heap[k]? := fun k hk => blk k (by have := h.lo.2.2.2.2.2; omega) (fun hm => by have := hr k hm; omega)
  have ot : ∀ k, k ≠ C + 1 → (w'.setCell ⟨C + 1, 0, none⟩ rv').heap[k]? = w'.heap[k]? := fun k hk => cell_other hk
  have bo : ∀ k, k < C + 7 → k ≠ C + 1 → (w'.setCell ⟨C + 1, 0, none⟩ rv').heap[k]? = w.heap[k]? := fun k hk hn => (ot k hn).trans (b k hk)
  refine ⟨h.st.below (C := C) ⟨h.lo.1, h.lo.2.1, h.lo.2.2.1, h.lo.2.2.2.1, h.lo.2.2.2.2.1⟩ (fun k hk => bo k (by omega) (by omega)) (by simpa using hz), (bo _ (by omega) (by omega)).trans h.hk, setCell_row ((b _ (by omega)).trans h.hl) rv', h.m1.same (bo _ (by omega) (by omega)), (bo _ (by omega) (by omega)).trans h.ha, h.m2.same (bo _ (by omega) (by omega)), (bo _ (by omega) (by omega)).trans h.hb, (bo _ (by omega) (by omega)).trans h.hs, own_same o (fun k hk _ => ot k (by omega)), h.lo.1, h.lo.2.1, h.lo.2.2.1, h.lo.2.2.2.1, h.lo.2.2.2.2.1, by have := h.lo.2.2.2.2.2; simp; omega⟩
end
end Go.Proofs.Ytfibbhmmiemcoaa
