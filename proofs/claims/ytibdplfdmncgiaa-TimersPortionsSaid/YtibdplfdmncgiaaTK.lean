/-
  Plain laws for TimersNext. No condition.
-/
import Derived.Test.YtibdplfdmncgiaaTI
import Derived.Test.YtibdplfdmncgiaaT9
set_option linter.all false
namespace Go.Proofs.Ytibdplfdmncgiaa

/-- The ids that are handed out first. -/
def idsV (j : Nat) : List Int := (List.range j).map Int.ofNat
theorem idsV_succ (j : Nat) : idsV (j + 1) = idsV j ++ [(j : Int)] := by unfold idsV; rw [List.range_succ, List.map_append]; rfl
theorem idsV_get {j k : Nat} (h : k < j) : (idsV j)[k]? = some (k : Int) := by unfold idsV; simp [h]
theorem idsV_length (j : Nat) : (idsV j).length = j := by simp [idsV]

structure NextAt (k j : Nat) (W : Wh) : Prop where
  inv : WInv W
  now : W.now = 0
  ids : W.ids = j
  ord : W.ord = j
  m : W.m = j
  Ln : W.L.length = j
  S : W.S.map (·.id) = idsV j
  le : j ≤ k

theorem next0 : NextAt 0 0 wh00 := ⟨inv0, rfl, rfl, rfl, rfl, rfl, rfl, Nat.le_refl _⟩
theorem NextAt.len {k j : Nat} {W : Wh} (h : NextAt k j W) : W.S.length = j := by
  have := congrArg List.length h.S
  simpa [idsV] using this
theorem NextAt.skip {k j : Nat} {W : Wh} (h : NextAt k j W) : NextAt (k + 1) j W := ⟨h.inv, h.now, h.ids, h.ord, h.m, h.Ln, h.S, Nat.le_succ_of_le h.le⟩
theorem NextAt.past {k j : Nat} {W : Wh} (h : NextAt k j W) {x : Int} (v : Int) (hx : x ≤ 0) : setW W x v = ((0, 140), W) := by
  unfold setW; rw [if_pos (by rw [h.now]; exact hx)]
theorem NextAt.laid {k j : Nat} {W : Wh} (h : NextAt k j W) {x : Int} (v : Int) (hx : 0 < x) (hk : k ≤ 100) : (setW W x v).1 = ((j : Int), 0) ∧ NextAt (k + 1) (j + 1) (setW W x v).2 ∧ (setW W x v).2.S = W.S ++ [⟨j, x, j, v⟩] := by
  have hl := h.len
  have hle := h.le
  unfold setW
  rw [if_neg (by rw [h.now]; omega), if_neg (by omega)]
  obtain ⟨hi, hS, hL⟩ := laid_inv h.inv x v
  refine ⟨by rw [h.ids], ⟨hi, h.now, ?_, ?_, ?_, ?_, ?_, ?_⟩, ?_⟩
  · simp only [laidW]; rw [h.ids]; omega
  · simp only [laidW]; rw [h.ord]; omega
  · simp only [laidW]; rw [h.m]; omega
  · rw [hL, h.Ln]
  · simp only
    rw [hS, List.map_append, h.S, idsV_succ, h.ids]
    rfl
  · omega
  · simp only
    rw [hS, h.ids, h.ord]

theorem get_none {S : List Tm} {k : Int} (h : getT S k = none) : ∀ t ∈ S, t.id ≠ k := fun t ht e => by
  unfold getT at h
  have := List.find?_eq_none.1 h t ht
  simp [e] at this

theorem drop_none {S : List Tm} {k : Int} (h : ∀ t ∈ S, t.id ≠ k) : dropT S k = S := by
  unfold dropT
  have : S.findIdx? (fun u => u.id == k) = none := by
    rw [List.findIdx?_eq_none_iff]
    intro u hu
    simpa using h u hu
  rw [this]

theorem drop_filter {S : List Tm} (hn : (S.map (·.id)).Nodup) (k : Int) : dropT S k = S.filter fun t => t.id != k := by
  cases hg : getT S k with
  | none => 
    rw [drop_none (get_none hg), filter_all]
    intro t ht
    simpa using get_none hg t ht
  | some t =>
    obtain ⟨l1, l2, h1, h2, h3⟩ := get_split hg
    rw [h2, h1, List.filter_append, List.filter_cons_of_neg (by simp [h3])]
    rw [h1, List.map_append, List.map_cons, List.nodup_append] at hn
    obtain ⟨n1, n2, n3⟩ := hn
    rw [List.nodup_cons] at n2
    rw [filter_all, filter_all]
    · intro u hu
      simp only [bne_iff_ne, ne_eq]
      intro e
      exact n2.1 (List.mem_map.2 ⟨u, hu, by omega⟩)
    · intro u hu
      simp only [bne_iff_ne, ne_eq]
      intro e
      exact n3 u.id (List.mem_map.2 ⟨u, hu, rfl⟩) t.id (by simp) (by omega)

theorem get_drop {S : List Tm} (hn : (S.map (·.id)).Nodup) (k : Int) : getT (dropT S k) k = none := by
  rw [drop_filter hn]
  unfold getT
  rw [List.find?_eq_none]
  intro t ht
  have := (List.mem_filter.1 ht).2
  simpa using this
theorem drop_drop {S : List Tm} (hn : (S.map (·.id)).Nodup) (k : Int) : dropT (dropT S k) k = dropT S k := drop_none (get_none (get_drop hn k))

theorem get_filter {S : List Tm} (hn : (S.map (·.id)).Nodup) (k d : Int) : getT (dropT S d) k = if k = d then none else getT S k := by
  by_cases hkd : k = d
  · rw [if_pos hkd, hkd]; exact get_drop hn d
  · rw [if_neg hkd, drop_filter hn]
    unfold getT
    induction S with
    | nil => rfl
    | cons t S ih =>
      rw [List.map_cons, List.nodup_cons] at hn
      by_cases ht : t.id = d
      · rw [List.filter_cons_of_neg (by simp [ht]), ih hn.2, List.find?_cons]
        have : (t.id == k) = false := by simp; omega
        rw [this]
      · rw [List.filter_cons_of_pos (by simp [ht]), List.find?_cons, List.find?_cons, ih hn.2]

/-- Timer number k has the id k. -/
theorem ids_get {S : List Tm} {j k : Nat} (h : S.map (·.id) = idsV j) (hk : k < j) : ∃ t, S[k]? = some t ∧ t.id = k ∧ ((S.map (·.id)).Nodup → getT S k = some t) := by
  have h1 := congrArg (fun l => l[k]?) h
  simp only [idsV_get hk, List.getElem?_map] at h1
  cases hS : S[k]? with
  | none => rw [hS] at h1; cases h1
  | some t =>
    rw [hS] at h1
    have hid : t.id = k := by simpa using h1
    refine ⟨t, rfl, hid, fun hn => ?_⟩
    have := get_of_mem hn (List.mem_of_getElem? hS)
    rw [hid] at this
    exact this

theorem ids_gone {S : List Tm} {j : Nat} (h : S.map (·.id) = idsV j) (d : Int) : (getT S d).isSome = (decide (0 ≤ d) && decide (d < j)) := by
  cases hg : getT S d with
  | none =>
    symm
    by_cases hd : 0 ≤ d ∧ d < j
    · exfalso
      obtain ⟨t, ht, hid, _⟩ := ids_get h (k := d.toNat) (by omega)
      exact get_none hg t (List.mem_of_getElem? ht) (by omega)
    · by_cases h0 : 0 ≤ d
      · have : ¬ d < j := by omega
        simp [this]
      · simp [h0]
  | some t =>
    obtain ⟨hm, hid⟩ := get_mem hg
    have h1 : t.id ∈ idsV j := by rw [← h]; exact List.mem_map.2 ⟨t, hm, rfl⟩
    unfold idsV at h1
    obtain ⟨i, hi, he⟩ := List.mem_map.1 h1
    rw [List.mem_range] at hi
    have he : (i : Int) = t.id := he
    have a1 : 0 ≤ d := by omega
    have a2 : d < j := by omega
    simp [a1, a2]

/-- How many there are, and the least tick. -/
def scanS (r : Int × Int) (t : Tm) : Int × Int := (r.1 + 1, if r.1 = 0 ∨ t.a < r.2 then t.a else r.2)
def scanT (l : List Tm) : Int × Int := l.foldl scanS (0, 0)
theorem scanT_add (l : List Tm) (t : Tm) : scanT (l ++ [t]) = scanS (scanT l) t := by simp [scanT]

theorem scan_spec (l : List Tm) : (scanT l).1 = l.length ∧ (l = [] → (scanT l).2 = 0) ∧ (l ≠ [] → (∃ t ∈ l, t.a = (scanT l).2) ∧ ∀ u ∈ l, (scanT l).2 ≤ u.a) := by
  have key : ∀ r : List Tm, (scanT r.reverse).1 = r.length ∧ (r = [] → (scanT r.reverse).2 = 0) ∧ (r ≠ [] → (∃ t ∈ r, t.a = (scanT r.reverse).2) ∧ ∀ u ∈ r, (scanT r.reverse).2 ≤ u.a) := by
    intro r
    induction r with
    | nil => exact ⟨rfl, fun _ => rfl, fun h => absurd rfl h⟩
    | cons t r ih =>
      rw [List.reverse_cons, scanT_add]
      obtain ⟨i1, i2, i3⟩ := ih
      refine ⟨by simp only [scanS, i1]; simp, fun h => (by cases h), fun _ => ?_⟩
      unfold scanS
      simp only [i1]
      by_cases hr : r = []
      · subst hr
        simp
      · obtain ⟨⟨u, hu, hua⟩, hmin⟩ := i3 hr
        have hl : ¬ ((r.length : Int) = 0) := by cases r with | nil => exact absurd rfl hr | cons => simp; omega
        by_cases hlt : t.a < (scanT r.reverse).2
        · rw [if_pos (.inr hlt)]
          refine ⟨⟨t, by simp, rfl⟩, fun x hx => ?_⟩
          rcases List.mem_cons.1 hx with rfl | hx
          · exact Int.le_refl _
          · have := hmin x hx; omega
        · rw [if_neg (by omega)]
          refine ⟨⟨u, by simp [hu], hua⟩, fun x hx => ?_⟩
          rcases List.mem_cons.1 hx with rfl | hx
          · omega
          · exact hmin x hx
  have := key l.reverse
  rw [List.reverse_reverse, List.length_reverse] at this
  refine ⟨this.1, fun h => this.2.1 (by rw [h]; rfl), fun h => ?_⟩
  obtain ⟨⟨t, ht, h1⟩, h2⟩ := this.2.2 (fun e => h (by rw [← List.reverse_reverse l, e]; rfl))
  exact ⟨⟨t, by simpa using ht, h1⟩, fun u hu => h2 u (by simpa using hu)⟩

/-- What Next answers is what the scan finds. -/
theorem next_scan {W : Wh} (h : WInv W) : nextV W.S (firstL W.S W.L.length W.L) = .tuple #[.int .i64 (scanT W.S).2, .bool (decide (0 < (scanT W.S).1))] := by
  obtain ⟨s1, s2, s3⟩ := scan_spec W.S
  rcases hf : firstL W.S W.L.length W.L with _ | ⟨x, L'⟩
  · have hS := first_none h hf
    have : (scanT W.S).1 = 0 := by rw [s1, hS]; rfl
    simp only [nextV, s2 hS, this]
    rfl
  · obtain ⟨t, hg, _, hmin⟩ := first_least h hf
    obtain ⟨hm, hid⟩ := get_mem hg
    have hne : W.S ≠ [] := fun e => by rw [e] at hm; cases hm
    obtain ⟨⟨u, hu, hua⟩, hmin2⟩ := s3 hne
    have e1 : t.a = (scanT W.S).2 := by
      have := hmin u hu
      have := hmin2 t hm
      omega
    have e2 : decide (0 < (scanT W.S).1) = true := by
      rw [s1]
      refine decide_eq_true ?_
      have := List.length_pos_iff.2 hne
      omega
    have htm : tmAt W.S x.i = t := by unfold tmAt; rw [hg]; rfl
    simp only [nextV, htm, e1, e2]

/-- A step of the second loop. -/
theorem scan_step {S : List Tm} {j k : Nat} (h : S.map (·.id) = idsV j) (hn : (S.map (·.id)).Nodup) (d : Int) (hk : k < j) :
    (getT (dropT S d) k = none ∧ scanT ((S.take (k + 1)).filter fun t => t.id != d) = scanT ((S.take k).filter fun t => t.id != d)) ∨
    (∃ t, getT (dropT S d) k = some t ∧ scanT ((S.take (k + 1)).filter fun t => t.id != d) = scanS (scanT ((S.take k).filter fun t => t.id != d)) t) := by
  obtain ⟨t, ht, hid, hg⟩ := ids_get h hk
  have hlt : k < S.length := (List.getElem?_eq_some_iff.1 ht).1
  have hget : S[k] = t := by rw [List.getElem?_eq_getElem hlt] at ht; exact Option.some.inj ht
  rw [get_filter hn, List.take_add_one, ht, List.filter_append]
  by_cases hkd : (k : Int) = d
  · refine .inl ⟨if_pos hkd, ?_⟩
    rw [show (some t).toList = [t] from rfl, List.filter_cons_of_neg (by simp; omega)]
    simp
  · refine .inr ⟨t, by rw [if_neg hkd]; exact hg hn, ?_⟩
    rw [show (some t).toList = [t] from rfl, List.filter_cons_of_pos (by simp; omega)]
    rw [List.filter_nil, scanT_add]
end Go.Proofs.Ytibdplfdmncgiaa
