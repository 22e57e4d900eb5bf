/-
  Plain laws for TimersPortions. No condition.
-/
import Derived.Test.YtibdplfdmncgiaaTI
set_option linter.all false
namespace Go.Proofs.Ytibdplfdmncgiaa

structure PortAt (L : List Int) (k j : Nat) (W : Wh) : Prop where
  inv : WInv W
  now : W.now = 0
  ids : W.ids = j
  ord : W.ord = j
  m : W.m = j
  Ln : W.L.length = j
  S : W.S.map (·.a) = (L.take k).filter fun x => decide (0 < x)
  v : ∀ t ∈ W.S, t.v = t.a
  len : W.S.length = j
  le : j ≤ k

theorem port0 (L : List Int) : PortAt L 0 0 wh00 := ⟨inv0, rfl, rfl, rfl, rfl, rfl, rfl, fun t h => (by cases h), rfl, Nat.le_refl _⟩

theorem PortAt.past {L : List Int} {k j : Nat} {W : Wh} (h : PortAt L k j W) {x : Int} (hx : L[k]? = some x) (h0 : x ≤ 0) (v : Int) : setW W x v = ((0, 140), W) ∧ PortAt L (k + 1) j W := by
  refine ⟨by unfold setW; rw [if_pos (by rw [h.now]; exact h0)], h.inv, h.now, h.ids, h.ord, h.m, h.Ln, ?_, h.v, h.len, Nat.le_succ_of_le h.le⟩
  rw [h.S, List.take_add_one, hx, List.filter_append]
  simp only [Option.toList_some, List.filter_cons]
  rw [if_neg (by simp; omega)]
  simp

theorem PortAt.laid {L : List Int} {k j : Nat} {W : Wh} (h : PortAt L k j W) {x : Int} (hx : L[k]? = some x) (h0 : 0 < x) (hk : k ≤ 100) : (setW W x x).1 = ((j : Int), 0) ∧ PortAt L (k + 1) (j + 1) (setW W x x).2 := by
  have hl := h.len
  have hle := h.le
  unfold setW
  rw [if_neg (by rw [h.now]; omega), if_neg (by omega)]
  obtain ⟨hi, hS, hL⟩ := laid_inv h.inv x x
  refine ⟨by rw [h.ids], hi, h.now, ?_, ?_, ?_, ?_, ?_, ?_, ?_, ?_⟩
  · simp only [laidW]; rw [h.ids]; omega
  · simp only [laidW]; rw [h.ord]; omega
  · simp only [laidW]; rw [h.m]; omega
  · rw [hL, h.Ln]
  · simp only
    rw [hS, List.map_append, h.S, List.take_add_one, hx, List.filter_append]
    simp only [Option.toList_some, List.filter_cons]
    rw [if_pos (by simpa using h0)]
    rfl
  · intro t ht
    simp only at ht
    rw [hS] at ht
    rcases List.mem_append.1 ht with ht | ht
    · exact h.v t ht
    · simp only [List.mem_singleton] at ht
      rw [ht]
  · simp only
    rw [hS, List.length_append, hl]
    rfl
  · omega

theorem port_step {L : List Int} {k j : Nat} {W : Wh} (h : PortAt L k j W) {x : Int} (hx : L[k]? = some x) (hk : k ≤ 100) : ∃ (ri re : Int) (j' : Nat), (setW W x x).1 = (ri, re) ∧ PortAt L (k + 1) j' (setW W x x).2 ∧ j' ≤ k + 1 ∧ ((x ≤ 0 ∧ re = 140 ∧ j' = j) ∨ (0 < x ∧ re = 0 ∧ j' = j + 1)) := by
  have hle := h.le
  by_cases h0 : x ≤ 0
  · obtain ⟨h1, h2⟩ := h.past hx h0 x
    exact ⟨0, 140, j, by rw [h1], by rw [h1]; exact h2, by omega, .inl ⟨h0, rfl, rfl⟩⟩
  · obtain ⟨h1, h2⟩ := h.laid hx (by omega) hk
    exact ⟨j, 0, j + 1, h1, h2, by omega, .inr ⟨by omega, rfl, rfl⟩⟩

/-- A wheel that has been turned to a tick in portions. -/
structure Turning (S0 : List Tm) (n : Nat) (T : Int) (acc : List Int) (W : Wh) : Prop where
  inv : WInv W
  now : W.now = T
  pos : 0 ≤ T
  max : T ≤ 9223372036854775807
  S : W.S = S0.filter fun t => decide (T < t.a)
  perm : acc.Perm ((S0.filter fun t => decide (t.a ≤ T)).map (·.a))
  sort : acc.Pairwise (· ≤ ·)
  L : W.L.length ≤ n

theorem PortAt.turning {L : List Int} {k j : Nat} {W : Wh} (h : PortAt L k j W) : Turning W.S j 0 [] W := by
  have hp : ∀ t ∈ W.S, 0 < t.a := fun t ht => by
    have h1 : t.a ∈ W.S.map (·.a) := List.mem_map.2 ⟨t, ht, rfl⟩
    rw [h.S] at h1
    simpa using (List.mem_filter.1 h1).2
  refine ⟨h.inv, h.now, Int.le_refl _, by omega, (filter_all fun t ht => by simpa using hp t ht).symm, ?_, List.Pairwise.nil, by rw [h.Ln]; exact Nat.le_refl _⟩
  rw [filter_none fun t ht => by have := hp t ht; simp; omega]
  exact List.Perm.refl _

theorem Turning.step {S0 : List Tm} {n : Nat} {T : Int} {acc : List Int} {W : Wh} (h : Turning S0 n T acc W) (hv : ∀ t ∈ S0, t.v = t.a) {p : Int} (h0 : 0 ≤ p) (h1 : p ≤ 9223372036854775807 - T) (R : List Int × Wh)
    (hR : R = untilW (W.now + p) (W.S.length + 1) W []) : Turning S0 n (T + p) (acc ++ R.1) R.2 := by
  have hT := until_ok (W.now + p) (W.S.length + 1) W [] (by omega) h.inv
  rw [← hR] at hT
  obtain ⟨D, hD, hP, hW⟩ := hT.ex
  rw [List.nil_append] at hD
  have hpos := h.pos
  rw [h.now, h.S, List.filter_filter] at hP
  have hDm : ∀ t ∈ D, t ∈ S0 ∧ T < t.a ∧ t.a ≤ T + p := fun t ht => by
    have := hP.mem_iff.1 ht
    rw [List.mem_filter] at this
    have h3 := this.2
    simp only [Bool.and_eq_true, decide_eq_true_eq] at h3
    exact ⟨this.1, by omega, by omega⟩
  have hDv : D.map (·.v) = D.map (·.a) := List.map_congr_left fun t ht => hv t (hDm t ht).1
  rw [hDv] at hD
  have hacc : ∀ x ∈ acc, x ≤ T := fun x hx => by
    have := h.perm.mem_iff.1 hx
    obtain ⟨t, ht, rfl⟩ := List.mem_map.1 this
    simpa using (List.mem_filter.1 ht).2
  refine ⟨hT.inv, by rw [hT.now, h.now], by omega, by omega, ?_, ?_, ?_, Nat.le_trans hT.same.2.2.2 h.L⟩
  · rw [hT.S, h.S, h.now, List.filter_filter]
    refine List.filter_congr fun t _ => ?_
    simp only [← Bool.decide_and, decide_eq_decide]
    omega
  · rw [hD]
    refine (h.perm.append (hP.map (·.a))).trans ?_
    rw [← List.map_append]
    refine List.Perm.map _ ?_
    have e1 : (S0.filter fun t => decide (t.a ≤ T)) = (S0.filter fun t => decide (t.a ≤ T + p)).filter fun t => decide (t.a ≤ T) := by
      rw [List.filter_filter]
      refine List.filter_congr fun t _ => ?_
      simp only [← Bool.decide_and, decide_eq_decide]
      omega
    have e2 : (S0.filter fun t => decide (t.a ≤ T + p) && decide (T < t.a)) = (S0.filter fun t => decide (t.a ≤ T + p)).filter fun t => !decide (t.a ≤ T) := by
      rw [List.filter_filter]
      refine List.filter_congr fun t _ => ?_
      rw [← decide_not, ← Bool.decide_and, ← Bool.decide_and, decide_eq_decide]
      omega
    rw [e1, e2]
    exact List.filter_append_perm _ _
  · rw [List.pairwise_append]
    refine ⟨h.sort, ?_, ?_⟩
    · rw [hD, List.pairwise_map]
      exact hW
    · intro x hx y hy
      have := hacc x hx
      rw [hD] at hy
      obtain ⟨t, ht, rfl⟩ := List.mem_map.1 hy
      have := (hDm t ht).2.1
      omega

theorem sorted_same {l1 l2 : List Int} (hp : l1.Perm l2) (h1 : l1.Pairwise (· ≤ ·)) (h2 : l2.Pairwise (· ≤ ·)) : l1 = l2 :=
  List.Perm.eq_of_pairwise (fun a b _ _ h h' => Int.le_antisymm h h') h1 h2 hp

/-- Both ways the same falls due. -/
theorem Turning.same {S0 : List Tm} {n m : Nat} {T : Int} {acc acc' : List Int} {W W' : Wh} (h : Turning S0 n T acc W) (h' : Turning S0 m T acc' W') : acc = acc' ∧ W.S = W'.S :=
  ⟨sorted_same (h.perm.trans h'.perm.symm) h.sort h'.sort, h.S.trans h'.S.symm⟩

theorem Turning.count {S0 : List Tm} {n : Nat} {T : Int} {acc : List Int} {W : Wh} (h : Turning S0 n T acc W) : W.S.length + acc.length = S0.length := by
  rw [h.S, h.perm.length_eq, List.length_map]
  have := (List.filter_append_perm (fun t : Tm => decide (t.a ≤ T)) S0).length_eq
  rw [List.length_append] at this
  have e : (S0.filter fun t => decide (T < t.a)) = S0.filter fun t => !decide (t.a ≤ T) := List.filter_congr fun t _ => by
    rw [← decide_not, decide_eq_decide]; omega
  rw [e]
  omega

/-- The count of those that are set for a tick up to the last. -/
def cntT (L : List Int) (T : Int) : List Int := L.filter fun x => decide (0 < x) && decide (x ≤ T)
theorem cnt_final {L : List Int} {k j n : Nat} {W0 W : Wh} (h0 : PortAt L k j W0) (hk : L.length ≤ k) {T : Int} {acc : List Int} (h : Turning W0.S n T acc W) : (cntT L T).length = acc.length := by
  rw [h.perm.length_eq]
  have e : ((W0.S.filter fun t => decide (t.a ≤ T)).map (·.a)) = (W0.S.map (·.a)).filter fun x => decide (x ≤ T) := by
    rw [List.filter_map]; rfl
  rw [e, h0.S, List.take_of_length_le hk, List.filter_filter]
  unfold cntT
  congr 1
  refine List.filter_congr fun x _ => ?_
  rw [Bool.and_comm]
theorem cntT_add {L : List Int} {k : Nat} {x : Int} (hx : L[k]? = some x) (T : Int) : (cntT (L.take (k + 1)) T).length = (cntT (L.take k) T).length + (if 0 < x ∧ x ≤ T then 1 else 0) := by
  unfold cntT
  rw [List.take_add_one, hx, List.filter_append, List.length_append]
  simp only [Option.toList_some, List.filter_cons, List.filter_nil]
  by_cases h : 0 < x ∧ x ≤ T
  · rw [if_pos h, if_pos (by simp [h.1, h.2])]; rfl
  · rw [if_neg h, if_neg (by simpa using fun a => by have := h; omega)]; rfl
theorem Turning.le {S0 : List Tm} {n : Nat} {T : Int} {acc : List Int} {W : Wh} (h : Turning S0 n T acc W) : ∀ x ∈ acc, x ≤ T := fun x hx => by
  have := h.perm.mem_iff.1 hx
  obtain ⟨t, ht, rfl⟩ := List.mem_map.1 this
  simpa using (List.mem_filter.1 ht).2
end Go.Proofs.Ytibdplfdmncgiaa
