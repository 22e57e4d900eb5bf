/-
  Plain laws of the heap's list. No condition.
-/
import Derived.Test.YtibdplfdmncgiaaT7
set_option linter.all false
namespace Go.Proofs.Ytibdplfdmncgiaa

theorem ahead_iff (x y : Hd) : aheadH x y = true ↔ x.a < y.a ∨ (x.a = y.a ∧ (x.o < y.o ∨ (x.o = y.o ∧ x.n < y.n))) := by
  unfold aheadH lessH
  simp only [Bool.or_eq_true, Bool.and_eq_true, Bool.not_eq_true', decide_eq_true_eq, Bool.or_eq_false_iff, Bool.and_eq_false_iff, decide_eq_false_iff_not]
  omega
theorem ahead_false (x y : Hd) : aheadH x y = false ↔ ¬ (x.a < y.a ∨ (x.a = y.a ∧ (x.o < y.o ∨ (x.o = y.o ∧ x.n < y.n)))) := by
  rw [← ahead_iff]; simp
/-- x does not come behind y. -/
theorem not_ahead_trans {x y z : Hd} (h1 : aheadH y x = false) (h2 : aheadH z y = false) : aheadH z x = false := by
  rw [ahead_false] at *
  omega
theorem not_ahead_of {x y : Hd} (h : aheadH x y = true) : aheadH y x = false := by
  rw [ahead_iff] at h
  rw [ahead_false]
  omega
theorem not_ahead_self (x : Hd) : aheadH x x = false := by
  rw [ahead_false]; omega

/-- No thing comes ahead of the one above it. -/
def HeapOk (L : List Hd) : Prop := ∀ i x y, 0 < i → L[i]? = some x → L[(i - 1) / 2]? = some y → aheadH x y = false

theorem heap_root {L : List Hd} (h : HeapOk L) {r : Hd} (hr : L[0]? = some r) : ∀ (i : Nat) (x : Hd), L[i]? = some x → aheadH x r = false := by
  intro i
  induction i using Nat.strongRecOn with
  | _ i ih =>
    intro x hx
    by_cases h0 : i = 0
    · subst h0
      rw [hr] at hx
      cases hx
      exact not_ahead_self _
    · have hlt : i < L.length := (List.getElem?_eq_some_iff.1 hx).1
      obtain ⟨y, hy⟩ : ∃ y, L[(i - 1) / 2]? = some y := ⟨_, List.getElem?_eq_getElem (by omega)⟩
      exact not_ahead_trans (ih ((i - 1) / 2) (by omega) y hy) (h i x y (by omega) hx hy)

theorem swap_get {L : List Hd} {i p : Nat} {x y : Hd} (hx : L[i]? = some x) (hy : L[p]? = some y) (hne : i ≠ p) (j : Nat) : (swapH L i p)[j]? = if j = p then some x else if j = i then some y else L[j]? := by
  rw [swapH_eq hx hy]
  have h1 := (List.getElem?_eq_some_iff.1 hx).1
  have h2 := (List.getElem?_eq_some_iff.1 hy).1
  by_cases hp : j = p
  · subst hp
    rw [List.getElem?_set_self (by simpa using h2), if_pos rfl]
  · rw [List.getElem?_set_ne (fun e => hp e.symm), if_neg hp]
    by_cases hi : j = i
    · subst hi
      rw [List.getElem?_set_self h1, if_pos rfl]
    · rw [List.getElem?_set_ne (fun e => hi e.symm), if_neg hi]

theorem swap_perm {L : List Hd} {i p : Nat} : (swapH L i p).Perm L := by
  unfold swapH
  split
  · rename_i x y hx hy
    obtain ⟨h1, h1'⟩ := List.getElem?_eq_some_iff.1 hx
    obtain ⟨h2, h2'⟩ := List.getElem?_eq_some_iff.1 hy
    rw [List.perm_iff_count]
    intro a
    rw [List.count_set (by simpa using h2), List.count_set h1]
    simp only [List.getElem_set]
    by_cases hip : i = p
    · subst hip
      simp only [if_true]
      rw [h1'] at h2'
      subst h2'
      rw [h1']
      have := List.count_pos_iff (a := a) (l := L)
      by_cases hxa : (x == a) = true
      · simp only [hxa, if_true]
        have hm : a ∈ L := by
          have : x = a := by simpa using hxa
          rw [← this, ← h1']; exact List.getElem_mem h1
        have := List.count_pos_iff.2 hm
        omega
      · simp only [hxa, if_false]
        simp
    · rw [if_neg hip, h1', h2']
      have hm : ∀ z, z ∈ L → 0 < L.count z := fun z hz => List.count_pos_iff.2 hz
      have hxm : x ∈ L := by rw [← h1']; exact List.getElem_mem h1
      have hym : y ∈ L := by rw [← h2']; exact List.getElem_mem h2
      by_cases hxa : x = a <;> by_cases hya : y = a
      · subst hxa; subst hya
        have := hm _ hxm
        simp; omega
      · subst hxa
        have := hm _ hxm
        have hya' : (y == x) = false := by simpa using hya
        simp [hya']; omega
      · subst hya
        have := hm _ hym
        have hxa' : (x == y) = false := by simpa using hxa
        simp [hxa']
      · have hxa' : (x == a) = false := by simpa using hxa
        have hya' : (y == a) = false := by simpa using hya
        simp [hxa', hya']
  · exact List.Perm.refl _

/-- The heap's order, but for the thing at i and the one above it. -/
def UpOk (L : List Hd) (i : Nat) : Prop :=
  (∀ j x y, 0 < j → j ≠ i → L[j]? = some x → L[(j - 1) / 2]? = some y → aheadH x y = false) ∧
  (∀ j x y, 0 < j → 0 < i → (j - 1) / 2 = i → L[j]? = some x → L[(i - 1) / 2]? = some y → aheadH x y = false)

theorem up_ok : ∀ (f : Nat) (L : List Hd) (i : Nat), i ≤ f → i < L.length → UpOk L i → HeapOk (upH f L i) ∧ (upH f L i).Perm L
  | 0, L, i, hf, hi, h => by
    have : i = 0 := by omega
    subst this
    refine ⟨fun j x y hj hx hy => h.1 j x y hj (by omega) hx hy, List.Perm.refl _⟩
  | f + 1, L, i, hf, hi, h => by
    obtain ⟨x, hx⟩ : ∃ x, L[i]? = some x := ⟨_, List.getElem?_eq_getElem hi⟩
    obtain ⟨y, hy⟩ : ∃ y, L[(i - 1) / 2]? = some y := ⟨_, List.getElem?_eq_getElem (by omega)⟩
    by_cases hc : 0 < i ∧ aheadH x y = true
    · obtain ⟨h0, hab⟩ := hc
      rw [upH_go hx hy h0 hab hf]
      have hne : i ≠ (i - 1) / 2 := by omega
      have hg := swap_get hx hy hne
      have ih := up_ok f (swapH L i ((i - 1) / 2)) ((i - 1) / 2) (by omega) (by rw [swapH_length]; omega) ⟨?_, ?_⟩
      · exact ⟨ih.1, ih.2.trans swap_perm⟩
      · intro j u v hj hjp hu hv
        rw [hg] at hu hv
        rw [if_neg hjp] at hu
        by_cases hji : j = i
        · subst hji
          rw [if_pos rfl] at hu
          rw [if_pos rfl] at hv
          cases hu; cases hv
          exact not_ahead_of hab
        · rw [if_neg hji] at hu
          by_cases hpj : (j - 1) / 2 = (i - 1) / 2
          · rw [if_pos hpj] at hv
            cases hv
            have := h.1 j u y hj hji hu (by rw [hpj]; exact hy)
            exact not_ahead_trans (not_ahead_of hab) this
          · rw [if_neg hpj] at hv
            by_cases hpi : (j - 1) / 2 = i
            · rw [if_pos hpi] at hv
              cases hv
              exact h.2 j u y hj h0 hpi hu hy
            · rw [if_neg hpi] at hv
              exact h.1 j u v hj hji hu hv
      · intro j u v hj hp0 hpj hu hv
        rw [hg] at hu hv
        have hq : ((i - 1) / 2 - 1) / 2 ≠ (i - 1) / 2 := by omega
        have hq2 : ((i - 1) / 2 - 1) / 2 ≠ i := by omega
        rw [if_neg hq, if_neg hq2] at hv
        have hjp : j ≠ (i - 1) / 2 := by omega
        rw [if_neg hjp] at hu
        have hyv := h.1 ((i - 1) / 2) y v (by omega) (by omega) hy hv
        by_cases hji : j = i
        · rw [if_pos hji] at hu
          cases hu
          exact hyv
        · rw [if_neg hji] at hu
          have := h.1 j u y hj hji hu (by rw [hpj]; exact hy)
          exact not_ahead_trans hyv this
    · have hs : upH (f + 1) L i = L := upH_stop (fun a b ha hb h0 => by
        rw [hx] at ha; rw [hy] at hb; cases ha; cases hb
        cases hh : aheadH x y with
        | false => rfl
        | true => exact absurd ⟨h0, hh⟩ hc)
      rw [hs]
      refine ⟨fun j u v hj hu hv => ?_, List.Perm.refl _⟩
      by_cases hji : j = i
      · subst hji
        rw [hx] at hu; rw [hy] at hv
        cases hu; cases hv
        cases hh : aheadH x y with
        | false => rfl
        | true => exact absurd ⟨hj, hh⟩ hc
      · exact h.1 j u v hj hji hu hv

theorem push_ok {L : List Hd} (h : HeapOk L) (x : Hd) : HeapOk (upH L.length (L ++ [x]) L.length) ∧ (upH L.length (L ++ [x]) L.length).Perm (L ++ [x]) := by
  refine up_ok _ _ _ (Nat.le_refl _) (by simp) ⟨fun j u v hj hne hu hv => ?_, fun j u v hj h0 hp hu hv => ?_⟩
  · have hlt := (List.getElem?_eq_some_iff.1 hu).1
    simp only [List.length_append, List.length_cons, List.length_nil] at hlt
    rw [List.getElem?_append_left (by omega)] at hu hv
    exact h j u v hj hu hv
  · have hlt := (List.getElem?_eq_some_iff.1 hu).1
    simp only [List.length_append, List.length_cons, List.length_nil] at hlt
    omega

def DownOk (L : List Hd) (i : Nat) : Prop :=
  (∀ j x y, 0 < j → (j - 1) / 2 ≠ i → L[j]? = some x → L[(j - 1) / 2]? = some y → aheadH x y = false) ∧
  (∀ j x y, 0 < j → 0 < i → (j - 1) / 2 = i → L[j]? = some x → L[(i - 1) / 2]? = some y → aheadH x y = false)

theorem min_child {L : List Hd} {i : Nat} (h : 2 * i + 1 < L.length) : ∃ k y, Below2 L i k y ∧ (k = 2 * i + 1 ∨ k = 2 * i + 2) ∧ ∀ j u, 0 < j → (j - 1) / 2 = i → L[j]? = some u → aheadH u y = false := by
  obtain ⟨y, hy⟩ : ∃ y, L[2 * i + 1]? = some y := ⟨_, List.getElem?_eq_getElem h⟩
  by_cases h2 : 2 * i + 2 < L.length
  · obtain ⟨z, hz⟩ : ∃ z, L[2 * i + 2]? = some z := ⟨_, List.getElem?_eq_getElem h2⟩
    cases hzy : aheadH z y with
    | true =>
      refine ⟨2 * i + 2, z, ⟨h, hz, .inr ⟨rfl, h2, y, hy, hzy⟩⟩, .inr rfl, fun j u hj hp hu => ?_⟩
      have : j = 2 * i + 1 ∨ j = 2 * i + 2 := by omega
      rcases this with rfl | rfl
      · rw [hy] at hu; cases hu; exact not_ahead_of hzy
      · rw [hz] at hu; cases hu; exact not_ahead_self _
    | false =>
      refine ⟨2 * i + 1, y, ⟨h, hy, .inl ⟨rfl, fun z' _ hz' => by rw [hz] at hz'; cases hz'; exact hzy⟩⟩, .inl rfl, fun j u hj hp hu => ?_⟩
      have : j = 2 * i + 1 ∨ j = 2 * i + 2 := by omega
      rcases this with rfl | rfl
      · rw [hy] at hu; cases hu; exact not_ahead_self _
      · rw [hz] at hu; cases hu; exact hzy
  · refine ⟨2 * i + 1, y, ⟨h, hy, .inl ⟨rfl, fun _ h' _ => absurd h' h2⟩⟩, .inl rfl, fun j u hj hp hu => ?_⟩
    have hlt := (List.getElem?_eq_some_iff.1 hu).1
    have : j = 2 * i + 1 := by omega
    subst this
    rw [hy] at hu; cases hu; exact not_ahead_self _

theorem down_ok : ∀ (f : Nat) (L : List Hd) (i : Nat), i < L.length → L.length ≤ i + f → DownOk L i → HeapOk (downH f L i) ∧ (downH f L i).Perm L
  | 0, L, i, hi, hf, h => by omega
  | f + 1, L, i, hi, hf, h => by
    by_cases hlt : 2 * i + 1 < L.length
    · obtain ⟨x, hx⟩ : ∃ x, L[i]? = some x := ⟨_, List.getElem?_eq_getElem hi⟩
      obtain ⟨k, y, hb, hk, hmin⟩ := min_child hlt
      rw [downH_step hx hb]
      have hky := hb.2.1
      have hkl := (List.getElem?_eq_some_iff.1 hky).1
      cases hab : aheadH y x with
      | true =>
        rw [if_pos rfl]
        have hne : i ≠ k := by omega
        have hg := swap_get hx hky hne
        have ih := down_ok f (swapH L i k) k (by rw [swapH_length]; exact hkl) (by rw [swapH_length]; omega) ⟨?_, ?_⟩
        · exact ⟨ih.1, ih.2.trans swap_perm⟩
        · intro j u v hj hjp hu hv
          rw [hg] at hu hv
          rw [if_neg hjp] at hv
          by_cases hjk : j = k
          · rw [if_pos hjk] at hu
            rw [if_pos (by omega)] at hv
            cases hu; cases hv
            exact not_ahead_of hab
          · rw [if_neg hjk] at hu
            by_cases hji : j = i
            · rw [if_pos hji] at hu
              rw [if_neg (by omega)] at hv
              cases hu
              exact h.2 k y v (by omega) (by omega) (by omega) hky (by rw [← hji]; exact hv)
            · rw [if_neg hji] at hu
              by_cases hpi : (j - 1) / 2 = i
              · rw [if_pos hpi] at hv
                cases hv
                exact hmin j u hj hpi hu
              · rw [if_neg hpi] at hv
                exact h.1 j u v hj hpi hu hv
        · intro j u v hj h0 hp hu hv
          rw [hg] at hu hv
          rw [if_neg (by omega), if_pos (by omega)] at hv
          rw [if_neg (by omega), if_neg (by omega)] at hu
          cases hv
          exact h.1 j u y hj (by omega) hu (by rw [hp]; exact hky)
      | false =>
        rw [if_neg (by simp)]
        refine ⟨fun j u v hj hu hv => ?_, List.Perm.refl _⟩
        by_cases hp : (j - 1) / 2 = i
        · rw [hp, hx] at hv
          cases hv
          exact not_ahead_trans hab (hmin j u hj hp hu)
        · exact h.1 j u v hj hp hu hv
    · rw [downH_out hlt]
      refine ⟨fun j u v hj hu hv => ?_, List.Perm.refl _⟩
      have := (List.getElem?_eq_some_iff.1 hu).1
      exact h.1 j u v hj (by omega) hu hv

theorem pop_ok {x : Hd} {L : List Hd} (h : HeapOk (x :: L)) : HeapOk (popH (x :: L)) ∧ (popH (x :: L)).Perm L := by
  unfold popH
  simp only [List.length_cons, Nat.add_sub_cancel]
  obtain ⟨l, hl⟩ : ∃ l, (x :: L)[L.length]? = some l := ⟨_, List.getElem?_eq_getElem (by simp)⟩
  rw [hl]
  simp only [List.set_cons_zero]
  have hperm : ((l :: L).take L.length).Perm L := by
    cases hL : L.length with
    | zero =>
      have : L = [] := List.length_eq_zero_iff.1 hL
      subst this
      exact List.Perm.refl _
    | succ n =>
      rw [hL] at hl
      rw [List.take_succ_cons]
      have hs : L = L.take n ++ [l] := by
        have h1 : L[n]? = some l := by simpa using hl
        have h2 := List.take_append_drop n L
        have h3 : L.drop n = [l] := by
          rw [List.drop_eq_getElem?_toList_append, h1, List.drop_eq_nil_of_le (by omega)]
          rfl
        rw [h3] at h2
        exact h2.symm
      conv => rhs; rw [hs]
      exact (List.perm_append_singleton _ _).symm
  by_cases h0 : L.length = 0
  · have : L = [] := List.length_eq_zero_iff.1 h0
    subst this
    refine ⟨fun i a b _ ha _ => ?_, List.Perm.refl _⟩
    simp [downH] at ha
  · have hlen : ((l :: L).take L.length).length = L.length := by simp
    have := down_ok L.length ((l :: L).take L.length) 0 (by rw [hlen]; omega) (by rw [hlen]; omega) ⟨fun j u v hj hp hu hv => ?_, fun j u v _ hi _ _ _ => absurd hi (by omega)⟩
    · exact ⟨this.1, this.2.trans hperm⟩
    · have hj2 := (List.getElem?_eq_some_iff.1 hu).1
      rw [hlen] at hj2
      rw [List.getElem?_take_of_lt (by omega)] at hu hv
      obtain ⟨j', rfl⟩ : ∃ j', j = j' + 1 := ⟨j - 1, by omega⟩
      obtain ⟨p', hp'⟩ : ∃ p', (j' + 1 - 1) / 2 = p' + 1 := ⟨(j' + 1 - 1) / 2 - 1, by omega⟩
      rw [hp'] at hv
      rw [List.getElem?_cons_succ] at hu hv
      exact h (j' + 1) u v (by omega) (by rw [List.getElem?_cons_succ]; exact hu) (by rw [hp', List.getElem?_cons_succ]; exact hv)
end Go.Proofs.Ytibdplfdmncgiaa
