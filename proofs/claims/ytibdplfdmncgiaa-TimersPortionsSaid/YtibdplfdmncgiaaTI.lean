/-
  Plain laws of the wheel: what is set, what falls due first, what falls due up to a tick. No condition.
-/
import Derived.Test.YtibdplfdmncgiaaTH
import Derived.Test.YtibdplfdmncgiaaT8
set_option linter.all false
namespace Go.Proofs.Ytibdplfdmncgiaa

structure WInv (W : Wh) : Prop where
  heap : HeapOk W.L
  ent : ∀ t ∈ W.S, ∃ x ∈ W.L, x.i = t.id ∧ x.o = t.o ∧ x.a = t.a
  nodup : (W.S.map (·.id)).Nodup
  ords : ∀ x ∈ W.L, x.o < W.ord
  onod : (W.L.map (·.o)).Nodup
  ids : ∀ t ∈ W.S, 0 ≤ t.id ∧ t.id < W.ids
  pos : 0 ≤ W.ids

def wh00 : Wh := ⟨0, 0, 0, [], [], 0⟩
theorem inv0 : WInv wh00 where
  heap := fun i x y _ h _ => by simp [wh00] at h
  ent := fun t h => by simp [wh00] at h
  nodup := by simp [wh00]
  ords := fun x h => by simp [wh00] at h
  onod := by simp [wh00]
  ids := fun t h => by simp [wh00] at h
  pos := by simp [wh00]

theorem put_fresh {S : List Tm} {t : Tm} (h : ∀ u ∈ S, u.id ≠ t.id) : putT S t = S ++ [t] := by
  unfold putT
  have : S.findIdx? (fun u => u.id == t.id) = none := by
    rw [List.findIdx?_eq_none_iff]
    intro u hu
    simpa using h u hu
  rw [this]

theorem laid_inv {W : Wh} (h : WInv W) (at_ v : Int) : WInv (laidW { W with ids := W.ids + 1 } W.ids at_ v) ∧ (laidW { W with ids := W.ids + 1 } W.ids at_ v).S = W.S ++ [⟨W.ids, at_, W.ord, v⟩] ∧ (laidW { W with ids := W.ids + 1 } W.ids at_ v).L.length = W.L.length + 1 := by
  have hS : putT W.S ⟨W.ids, at_, W.ord, v⟩ = W.S ++ [⟨W.ids, at_, W.ord, v⟩] := put_fresh fun u hu => by have := (h.ids u hu).2; simp only; omega
  obtain ⟨hh, hp⟩ := push_ok h.heap ⟨at_, W.ord, W.ids, W.m⟩
  refine ⟨⟨hh, ?_, ?_, ?_, ?_, ?_, ?_⟩, hS, by simp [laidW, hp.length_eq]⟩
  · intro t ht
    simp only [laidW, hS, List.mem_append, List.mem_singleton] at ht ⊢
    rcases ht with ht | rfl
    · obtain ⟨x, hx, he⟩ := h.ent t ht
      exact ⟨x, hp.mem_iff.2 (by simp [hx]), he⟩
    · exact ⟨⟨at_, W.ord, W.ids, W.m⟩, hp.mem_iff.2 (by simp), rfl, rfl, rfl⟩
  · simp only [laidW, hS, List.map_append, List.map_cons, List.map_nil]
    rw [List.nodup_append]
    refine ⟨h.nodup, by simp, ?_⟩
    intro a ha b hb hab
    simp only [List.mem_singleton] at hb
    obtain ⟨t, ht, rfl⟩ := List.mem_map.1 ha
    have := (h.ids t ht).2
    omega
  · intro x hx
    have hx := hp.mem_iff.1 hx
    simp only [laidW, List.mem_append, List.mem_singleton] at hx ⊢
    rcases hx with hx | rfl
    · have := h.ords x hx; omega
    · simp only; omega
  · refine ((hp.map (·.o)).nodup_iff).2 ?_
    rw [List.map_append, List.nodup_append]
    refine ⟨h.onod, by simp, ?_⟩
    intro a ha b hb hab
    simp only [List.map_cons, List.map_nil, List.mem_singleton] at hb
    obtain ⟨x, hx, rfl⟩ := List.mem_map.1 ha
    have := h.ords x hx
    omega
  · intro t ht
    simp only [laidW, hS, List.mem_append, List.mem_singleton] at ht ⊢
    rcases ht with ht | rfl
    · have := h.ids t ht; omega
    · have := h.pos
      simp only
      omega
  · have := h.pos
    simp only [laidW]
    omega

theorem get_split {S : List Tm} {k : Int} {t : Tm} (h : getT S k = some t) : ∃ l1 l2, S = l1 ++ t :: l2 ∧ dropT S k = l1 ++ l2 ∧ t.id = k := by
  rw [← find_of_idx] at h
  cases hi : S.findIdx? (fun u => u.id == k) with
  | none => rw [hi] at h; cases h
  | some j =>
    rw [hi] at h
    simp only [Option.bind_some] at h
    obtain ⟨u, hu, hid⟩ := idx_spec hi
    rw [h] at hu
    cases hu
    obtain ⟨hlt, hget⟩ := List.getElem?_eq_some_iff.1 h
    refine ⟨S.take j, S.drop (j + 1), ?_, ?_, hid⟩
    · rw [← hget, List.getElem_cons_drop, List.take_append_drop]
    · unfold dropT
      rw [hi]
      simp only
      rw [List.eraseIdx_eq_take_drop_succ]

theorem get_mem {S : List Tm} {k : Int} {t : Tm} (h : getT S k = some t) : t ∈ S ∧ t.id = k := by
  obtain ⟨l1, l2, h1, _, h3⟩ := get_split h
  exact ⟨by rw [h1]; simp, h3⟩
theorem get_of_mem {S : List Tm} (hn : (S.map (·.id)).Nodup) {t : Tm} (ht : t ∈ S) : getT S t.id = some t := by
  induction S with
  | nil => cases ht
  | cons u S ih =>
    rw [List.map_cons, List.nodup_cons] at hn
    unfold getT
    rw [List.find?_cons]
    rcases List.mem_cons.1 ht with rfl | ht
    · simp
    · have hne : (u.id == t.id) = false := by
        simp only [beq_eq_false_iff_ne]
        intro e
        exact hn.1 (List.mem_map.2 ⟨t, ht, e.symm⟩)
      rw [hne]
      exact ih hn.2 ht

/-- Passing over what is not so any more: the wheel stays good. -/
theorem first_inv {W : Wh} (h : WInv W) : ∀ (f : Nat) (L : List Hd), WInv { W with L := L } → WInv { W with L := firstL W.S f L }
  | 0, L, hL => hL
  | f + 1, [], hL => hL
  | f + 1, x :: L, hL => by
    have hp := pop_ok hL.heap
    have stale : (∀ t, getT W.S x.i = some t → t.o ≠ x.o) → WInv { W with L := popH (x :: L) } := fun hst => by
      refine ⟨hp.1, fun t ht => ?_, h.nodup, fun y hy => hL.ords y (by simp [hp.2.mem_iff.1 hy]), ?_, h.ids, h.pos⟩
      · obtain ⟨y, hy, he1, he2, he3⟩ := hL.ent t ht
        rcases List.mem_cons.1 hy with rfl | hy
        · have := get_of_mem h.nodup ht
          rw [← he1] at this
          exact absurd he2.symm (hst t this)
        · exact ⟨y, hp.2.mem_iff.2 hy, he1, he2, he3⟩
      · refine ((hp.2.map (·.o)).nodup_iff).2 ?_
        have := hL.onod
        simp only [List.map_cons, List.nodup_cons] at this
        exact this.2
    simp only [firstL]
    split
    · rename_i t ht
      split
      · exact hL
      · rename_i ho
        exact first_inv h f _ (stale fun t' ht' => by rw [ht] at ht'; cases ht'; exact ho)
    · rename_i ht
      exact first_inv h f _ (stale fun t' ht' => by rw [ht] at ht'; cases ht')

theorem first_least {W : Wh} (h : WInv W) {x : Hd} {L : List Hd} (hf : firstL W.S W.L.length W.L = x :: L) : ∃ t, getT W.S x.i = some t ∧ x.a = t.a ∧ ∀ u ∈ W.S, t.a ≤ u.a := by
  have hi := first_inv h W.L.length W.L h
  rw [hf] at hi
  obtain ⟨t, hgt, hto⟩ := firstL_head (Nat.le_refl _) hf
  obtain ⟨htS, hid⟩ := get_mem hgt
  have hroot := heap_root hi.heap (r := x) rfl
  obtain ⟨y, hy, h1, h2, h3⟩ := hi.ent t htS
  have hxy : y = x := by
    rcases List.mem_cons.1 hy with e | hy
    · exact e
    · have := hi.onod
      simp only [List.map_cons, List.nodup_cons] at this
      exact absurd (List.mem_map.2 ⟨y, hy, h2.trans hto⟩) this.1
  subst hxy
  refine ⟨t, hgt, h3, fun u hu => ?_⟩
  obtain ⟨z, hz, g1, g2, g3⟩ := hi.ent u hu
  obtain ⟨i, hlt, hzi⟩ := List.getElem_of_mem hz
  have := hroot i z (by rw [List.getElem?_eq_getElem hlt, hzi])
  rw [ahead_false] at this
  omega

theorem first_none {W : Wh} (h : WInv W) (hf : firstL W.S W.L.length W.L = []) : W.S = [] := by
  have hi := first_inv h W.L.length W.L h
  rw [hf] at hi
  cases hS : W.S with
  | nil => rfl
  | cons t S =>
    obtain ⟨x, hx, _⟩ := hi.ent t (by simp [hS])
    cases hx

theorem drop_inv {W : Wh} (h : WInv W) {k : Int} (n : Int) : WInv { W with now := n, S := dropT W.S k } := by
  cases hg : getT W.S k with
  | none =>
    have : dropT W.S k = W.S := by
      unfold dropT
      rw [← find_of_idx] at hg
      cases hi : W.S.findIdx? (fun u => u.id == k) with
      | none => rfl
      | some j =>
        rw [hi] at hg
        simp only [Option.bind_some] at hg
        obtain ⟨u, hu, _⟩ := idx_spec hi
        rw [hu] at hg; cases hg
    rw [this]
    exact ⟨h.heap, h.ent, h.nodup, h.ords, h.onod, h.ids, h.pos⟩
  | some t =>
    obtain ⟨l1, l2, h1, h2, _⟩ := get_split hg
    have hsub : ∀ u ∈ dropT W.S k, u ∈ W.S := fun u hu => by
      rw [h2] at hu; rw [h1]
      simp only [List.mem_append, List.mem_cons] at hu ⊢
      rcases hu with hu | hu
      · exact .inl hu
      · exact .inr (.inr hu)
    refine ⟨h.heap, fun u hu => h.ent u (hsub u hu), ?_, h.ords, h.onod, fun u hu => h.ids u (hsub u hu), h.pos⟩
    have := h.nodup
    simp only at this ⊢
    rw [h1] at this
    rw [h2]
    simp only [List.map_append, List.map_cons] at this ⊢
    exact List.Nodup.sublist (List.Sublist.append_left (List.sublist_cons_self _ _) _) this

/-- What falls due up to a tick. -/
structure Turned (z : Int) (W : Wh) (R : List Int × Wh) (acc : List Int) : Prop where
  ex : ∃ D : List Tm, R.1 = acc ++ D.map (·.v) ∧ D.Perm (W.S.filter fun t => decide (t.a ≤ z)) ∧ D.Pairwise (fun t u => t.a ≤ u.a)
  now : R.2.now = z
  S : R.2.S = W.S.filter fun t => decide (z < t.a)
  inv : WInv R.2
  same : R.2.ids = W.ids ∧ R.2.ord = W.ord ∧ R.2.m = W.m ∧ R.2.L.length ≤ W.L.length

theorem filter_all {α : Type} {p : α → Bool} : ∀ {l : List α}, (∀ x ∈ l, p x = true) → l.filter p = l
  | [], _ => rfl
  | x :: l, h => by rw [List.filter_cons_of_pos (h x (by simp)), filter_all fun y hy => h y (by simp [hy])]
theorem filter_none {α : Type} {p : α → Bool} : ∀ {l : List α}, (∀ x ∈ l, p x = false) → l.filter p = []
  | [], _ => rfl
  | x :: l, h => by rw [List.filter_cons_of_neg (by simp [h x (by simp)]), filter_none fun y hy => h y (by simp [hy])]

theorem until_ok (z : Int) : ∀ (f : Nat) (W : Wh) (acc : List Int), W.S.length < f → WInv W → Turned z W (untilW z f W acc) acc
  | 0, W, acc, hf, _ => by omega
  | f + 1, W, acc, hf, h => by
    unfold untilW
    have hi := first_inv h W.L.length W.L h
    have hle := firstL_le (S := W.S) W.L.length W.L
    cases hfl : firstL W.S W.L.length W.L with
    | nil =>
      rw [hfl] at hi
      have hS := first_none h hfl
      refine ⟨⟨[], by simp, by rw [hS]; exact List.Perm.refl _, List.Pairwise.nil⟩, rfl, by simp [hS], ?_, rfl, rfl, rfl, by simp⟩
      exact ⟨hi.heap, hi.ent, hi.nodup, hi.ords, hi.onod, hi.ids, hi.pos⟩
    | cons x L' =>
      rw [hfl] at hi hle
      obtain ⟨t, hgt, hxa, hmin⟩ := first_least h hfl
      have htm : tmAt W.S x.i = t := by unfold tmAt; rw [hgt]; rfl
      simp only [htm]
      by_cases hlt : z < t.a
      · rw [if_pos hlt]
        have hall : ∀ u ∈ W.S, z < u.a := fun u hu => by have := hmin u hu; omega
        refine ⟨⟨[], by simp, ?_, List.Pairwise.nil⟩, rfl, ?_, ⟨hi.heap, hi.ent, hi.nodup, hi.ords, hi.onod, hi.ids, hi.pos⟩, rfl, rfl, rfl, hle⟩
        · rw [filter_none fun u hu => decide_eq_false (by have := hall u hu; omega)]
        · exact (filter_all fun u hu => decide_eq_true (hall u hu)).symm
      · rw [if_neg hlt]
        obtain ⟨l1, l2, hS, hD, _⟩ := get_split hgt
        have hlen := dropT_length hgt
        have hinv : WInv { W with now := t.a, S := dropT W.S x.i, L := x :: L' } := drop_inv (W := { W with L := x :: L' }) hi t.a
        have ih := until_ok z f { W with now := t.a, S := dropT W.S x.i, L := x :: L' } (acc ++ [t.v]) (by simp only; omega) hinv
        obtain ⟨D, hR, hP, hW⟩ := ih.ex
        refine ⟨⟨t :: D, by rw [hR]; simp, ?_, ?_⟩, ih.now, ?_, ih.inv, ih.same.1, ih.same.2.1, ih.same.2.2.1, Nat.le_trans ih.same.2.2.2 hle⟩
        · simp only at hP
          rw [hD, List.filter_append] at hP
          rw [hS, List.filter_append, List.filter_cons_of_pos (by simpa using hlt)]
          exact (List.Perm.cons t hP).trans (List.perm_middle.symm)
        · refine List.Pairwise.cons (fun u hu => ?_) hW
          have := hP.mem_iff.1 hu
          simp only [hD] at this
          have hm := (List.mem_filter.1 this).1
          refine hmin u ?_
          rw [hS]
          simp only [List.mem_append, List.mem_cons] at hm ⊢
          rcases hm with hm | hm
          · exact .inl hm
          · exact .inr (.inr hm)
        · rw [ih.S]
          simp only [hD]
          rw [hS, List.filter_append, List.filter_append, List.filter_cons_of_neg (by simpa using hlt)]
end Go.Proofs.Ytibdplfdmncgiaa
