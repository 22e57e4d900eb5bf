/-
  Plain laws for TimersFull. No condition.
-/
import Derived.Test.YtibdplfdmncgiaaTI
set_option linter.all false
namespace Go.Proofs.Ytibdplfdmncgiaa

def tmF (i : Nat) : Tm := ⟨i, 9223372036854775807 - i, i, i⟩

structure FullAt (k : Nat) (W : Wh) : Prop where
  inv : WInv W
  now : W.now = 0
  ids : W.ids = (min k 4096 : Nat)
  ord : W.ord = (min k 4096 : Nat)
  m : W.m = (min k 4096 : Nat)
  L : W.L.length = min k 4096
  S : W.S = (List.range (min k 4096)).map tmF

theorem full0 : FullAt 0 wh00 := ⟨inv0, rfl, rfl, rfl, rfl, rfl, rfl⟩

theorem full_step {k : Nat} {W : Wh} (h : FullAt k W) (hk : k ≤ 4100) :
    (setW W (9223372036854775807 - (k : Int)) k).1 = (if k < 4096 then ((k : Int), 0) else (0, 6)) ∧ FullAt (k + 1) (setW W (9223372036854775807 - (k : Int)) k).2 := by
  have hlen : W.S.length = min k 4096 := by rw [h.S]; simp
  have h1 : ¬ 9223372036854775807 - (k : Int) ≤ W.now := by rw [h.now]; omega
  by_cases hlt : k < 4096
  · have hm : min k 4096 = k := by omega
    have hm1 : min (k + 1) 4096 = k + 1 := by omega
    have h2 : ¬ 4096 ≤ (W.S.length : Int) := by rw [hlen]; omega
    unfold setW
    rw [if_neg h1, if_neg h2, if_pos hlt]
    obtain ⟨hi, hS, hL⟩ := laid_inv h.inv (9223372036854775807 - (k : Int)) k
    have e1 := h.ids
    have e2 := h.ord
    have e3 := h.m
    have e4 := h.L
    rw [hm] at e1 e2 e3 e4
    refine ⟨by rw [e1], hi, h.now, ?_, ?_, ?_, ?_, ?_⟩
    · rw [hm1]; simp only [laidW]; rw [e1]; omega
    · rw [hm1]; simp only [laidW]; rw [e2]; omega
    · rw [hm1]; simp only [laidW]; rw [e3]; omega
    · rw [hm1, hL, e4]
    · rw [hm1]
      simp only
      rw [hS, h.S, hm, List.range_succ, List.map_append, e1, e2]
      rfl
  · have h2 : 4096 ≤ (W.S.length : Int) := by rw [hlen]; omega
    have hm : min k 4096 = min (k + 1) 4096 := by omega
    unfold setW
    rw [if_neg h1, if_pos h2, if_neg hlt]
    refine ⟨rfl, h.inv, h.now, ?_, ?_, ?_, ?_, ?_⟩
    · rw [← hm]; exact h.ids
    · rw [← hm]; exact h.ord
    · rw [← hm]; exact h.m
    · rw [← hm]; exact h.L
    · rw [← hm]; exact h.S

theorem full_split : (List.range 4096).map tmF = [tmF 0, tmF 1] ++ (List.range 4094).map (fun i => tmF (2 + i)) := by
  rw [show 4096 = 2 + 4094 from rfl, List.range_add, List.map_append, List.map_map]
  rfl

/-- What the great turn hands back. -/
theorem full_turn {k : Nat} {W : Wh} (h : FullAt k W) (hk : 4096 ≤ k) (R : List Int × Wh) (hR : R = untilW (W.now + 9223372036854775805) (W.S.length + 1) W []) :
    R.1.length = 4094 ∧ R.1[0]? = some 4095 ∧ R.2.now = 9223372036854775805 ∧ R.2.S = [tmF 0, tmF 1] ∧ WInv R.2 ∧ R.2.L.length ≤ 4096 := by
  have hm : min k 4096 = 4096 := by omega
  have hS := h.S
  rw [hm, full_split] at hS
  rw [h.now, Int.zero_add] at hR
  have hT := until_ok 9223372036854775805 (W.S.length + 1) W [] (by omega) h.inv
  rw [← hR] at hT
  obtain ⟨D, hD, hP, hW⟩ := hT.ex
  rw [List.nil_append] at hD
  have f1 : W.S.filter (fun t => decide (t.a ≤ 9223372036854775805)) = (List.range 4094).map (fun i => tmF (2 + i)) := by
    rw [hS, List.filter_append, filter_none (l := [tmF 0, tmF 1]), filter_all, List.nil_append]
    · intro x hx
      obtain ⟨i, _, rfl⟩ := List.mem_map.1 hx
      refine decide_eq_true ?_
      show 9223372036854775807 - ((2 + i : Nat) : Int) ≤ _
      omega
    · intro x hx
      simp only [List.mem_cons, List.not_mem_nil, or_false] at hx
      rcases hx with rfl | rfl <;> rfl
  have f2 : W.S.filter (fun t => decide (9223372036854775805 < t.a)) = [tmF 0, tmF 1] := by
    rw [hS, List.filter_append, filter_all (l := [tmF 0, tmF 1]), filter_none, List.append_nil]
    · intro x hx
      obtain ⟨i, _, rfl⟩ := List.mem_map.1 hx
      refine decide_eq_false ?_
      show ¬ _ < 9223372036854775807 - ((2 + i : Nat) : Int)
      omega
    · intro x hx
      simp only [List.mem_cons, List.not_mem_nil, or_false] at hx
      rcases hx with rfl | rfl <;> rfl
  rw [f1] at hP
  have hl : D.length = 4094 := by rw [hP.length_eq]; simp
  refine ⟨by rw [hD]; simp [hl], ?_, hT.now, hT.S.trans f2, hT.inv, ?_⟩
  · cases hDD : D with
    | nil => rw [hDD] at hl; simp at hl
    | cons t D' =>
      rw [hD, hDD]
      simp only [List.map_cons, List.getElem?_cons_zero, Option.some.injEq]
      have hmem : tmF 4095 ∈ D := hP.mem_iff.2 (List.mem_map.2 ⟨4093, by simp, rfl⟩)
      have ht : t ∈ D := by rw [hDD]; simp
      obtain ⟨i, hi, rfl⟩ := List.mem_map.1 (hP.mem_iff.1 ht)
      rw [List.mem_range] at hi
      rw [hDD] at hmem hW
      have hle : (tmF (2 + i)).a ≤ (tmF 4095).a := by
        rcases List.mem_cons.1 hmem with e | e
        · rw [← e]; exact Int.le_refl _
        · exact (List.pairwise_cons.1 hW).1 _ e
      simp only [tmF] at hle ⊢
      omega
  · have := hT.same.2.2.2
    rw [h.L, hm] at this
    exact this

theorem full_tick (a b : Nat) {W : Wh} (hi : WInv W) (hn : W.now = 9223372036854775807 - ((a : Int) + 1)) (hS : W.S = (List.range (a + 1)).map tmF) (R : List Int × Wh) (hR : R = untilW (W.now + 1) (W.S.length + 1) W []) :
    R.1 = [(a : Int)] ∧ R.2.now = 9223372036854775807 - (a : Int) ∧ R.2.S = (List.range a).map tmF ∧ WInv R.2 ∧ R.2.L.length ≤ W.L.length := by
  have hT := until_ok (W.now + 1) (W.S.length + 1) W [] (by omega) hi
  rw [← hR] at hT
  obtain ⟨D, hD, hP, hW⟩ := hT.ex
  rw [List.nil_append] at hD
  rw [List.range_succ, List.map_append] at hS
  have f1 : W.S.filter (fun t => decide (t.a ≤ W.now + 1)) = [tmF a] := by
    rw [hS, List.filter_append, filter_none (l := (List.range a).map tmF), filter_all, List.nil_append]
    · rfl
    · intro x hx
      simp only [List.map_cons, List.map_nil, List.mem_singleton] at hx
      subst hx
      refine decide_eq_true ?_
      show 9223372036854775807 - (a : Int) ≤ _
      omega
    · intro x hx
      obtain ⟨i, hi, rfl⟩ := List.mem_map.1 hx
      rw [List.mem_range] at hi
      refine decide_eq_false ?_
      show ¬ 9223372036854775807 - (i : Int) ≤ _
      omega
  have f2 : W.S.filter (fun t => decide (W.now + 1 < t.a)) = (List.range a).map tmF := by
    rw [hS, List.filter_append, filter_all (l := (List.range a).map tmF), filter_none, List.append_nil]
    · intro x hx
      simp only [List.map_cons, List.map_nil, List.mem_singleton] at hx
      subst hx
      refine decide_eq_false ?_
      show ¬ _ < 9223372036854775807 - (a : Int)
      omega
    · intro x hx
      obtain ⟨i, hi, rfl⟩ := List.mem_map.1 hx
      rw [List.mem_range] at hi
      refine decide_eq_true ?_
      show _ < 9223372036854775807 - (i : Int)
      omega
  rw [f1] at hP
  rw [List.perm_singleton.1 hP] at hD
  exact ⟨hD, by rw [hT.now, hn]; omega, hT.S.trans f2, hT.inv, hT.same.2.2.2⟩
end Go.Proofs.Ytibdplfdmncgiaa
