/-
  An abstract machine of this place's own: a region that draws its order. No condition.
-/
import Derived.Test.YtnfehccnofhmnaaE24
set_option linter.all false
namespace Go.Proofs.Ytnfehccnofhmnaa
open Go.RowKit
namespace E

section
variable {P : Program} {X : Ctx} {fi : Fi}

theorem lastM_none {L : Nat → Bool} (h : ∀ j, L j = false) {m : Mem} : ∀ {T : List Rec}, lastM L m T = m
  | [] => rfl
  | r :: T => by
    have ih : lastM L m T = m := lastM_none h
    rw [lastM]
    cases r.eff with
    | mem bx h' => simp only [h, cond_false, ih]
    | _ => exact ih

theorem ab_none {L : Nat → Bool} (h : ∀ j, L j = false) {σ : St} : ∀ {T : List Rec}, ab L σ T = σ
  | [] => rfl
  | r :: T => by
    have ih : ab L σ T = σ := ab_none h
    rw [ab, h, cond_false, ih]

theorem cnt_le {L : Nat → Bool} : ∀ {T : List Rec}, cnt L T ≤ T.length
  | [] => Nat.le_refl _
  | r :: T => by
    have ih : cnt L T ≤ T.length := cnt_le
    rw [cnt, List.length_cons]
    cases L r.s.i <;> simp <;> omega

open Classical in
theorem drawOk (hT : TtOk P X) (hF : FlatOk P X) (hm : P.follows .mixedOrders = true) (wins : List (Nat × Win)) : DrawOk P fi (wpDraw P X fi wins) := by
  intro id ops σ K β μ a w Q hD hS hQ
  obtain ⟨hreg, hst, hw⟩ := hD
  simp only [regOk, Bool.and_eq_true, Nat.ble_eq] at hreg
  obtain ⟨⟨hall, hlen⟩, hgo⟩ := hreg
  refine wp_region_any hm ?_
  generalize hord : ordOf (get wins id) ops.toList.length = ord at hw hall hgo hlen
  generalize hws : winsOf (get wins id) = ws at hw hgo
  generalize htop : σ.h.next + countMk fi ops.toList ord = top at hw
  have hbt : σ.h.next ≤ top := by omega
  generalize hσ0 : ({ σ with h := { σ.h with next := top } } : St) = σ0 at hw
  have hσm : ((σ.bx, { σ.h with next := top }) : Mem) = σ0.mem := by rw [← hσ0]; rfl
  rw [hσm] at hw
  have hg0 : ∀ b, σ0.h.get b = σ.h.get b := fun b => by rw [← hσ0]; rfl
  have hx0 : σ0.bx = σ.bx := by rw [← hσ0]
  have he0 : σ0.env = σ.env := by rw [← hσ0]
  have hn0 : σ0.h.next = top := by rw [← hσ0]
  obtain ⟨T, hTr, hTi, hK, hR⟩ := drawL_trace (σ0 := σ0) (base := σ.h.next) (top := top) K ord σ.h.next [σ0.mem] [] σ0 [] hw hgo trivial rfl rfl (fun _ h => by cases h) (Nat.le_refl _) htop (fun _ h => by cases h)
  have hcov : ∀ i, i < ops.size → ∃ r ∈ T, r.s.i = i := fun i hi => by
    have : i ∈ ord := memN_iff.1 (List.all_eq_true.1 hall i (List.mem_range.2 (by simpa using hi)))
    have : i ∈ T.map (·.s.i) := by rw [hTi]; simpa using this
    obtain ⟨r, h1, h2⟩ := List.mem_map.1 this
    exact ⟨r, h1, h2⟩
  have hTl : T.length ≤ ops.size := by
    have := congrArg List.length hTi
    simp at this
    simp at hlen
    omega
  -- the slots of the variables that the region makes
  have hslot : ∀ r ∈ T, ∀ t, boxSlot fi r.s.o = some t → get σ.bx t = none ∧ (σ.env.any fun p => mentionsV t p.2) = false := fun r hr t ht => by
    obtain ⟨_, _, _, hok⟩ := hTr.mem hr
    have hmem : r.s.o ∈ ops.toList := List.mem_of_getElem? hok.hop
    have := List.all_eq_true.1 hst r.s.o hmem
    rw [ht] at this
    simp only [Bool.and_eq_true, Option.isNone_iff_eq_none, Bool.not_eq_true'] at this
    exact this
  let μ1 : Fms := fun t => if ∃ r ∈ T, boxSlot fi r.s.o = some t then none else μ t
  have hμ1 : ∀ t, (∀ r ∈ T, boxSlot fi r.s.o ≠ some t) → μ1 t = μ t := fun t h => if_neg (fun ⟨r, h1, h2⟩ => h r h1 h2)
  have hμb : ∀ t cs, get σ.bx t = some cs → μ1 t = μ t := fun t cs h => hμ1 t fun r hr ht => by
    rw [(hslot r hr t ht).1] at h; cases h
  have hfresh : ∀ b, σ.h.next ≤ b → σ.h.get b = none := fun b hb => by
    cases h : σ.h.get b with
    | none => rfl
    | some x =>
      obtain ⟨p, hp, _⟩ := hS.heap.blk b x h
      rw [hS.heap.fresh b hb] at hp
      cases hp
  have hS1 : SRel top β μ1 fi.nt σ0 a { w with drawn := w.drawn + 1 } := {
    heap := ⟨fun b hb => hS.heap.fresh b (Nat.le_trans hbt hb), fun b x h => hS.heap.blk b x (by rw [← hg0]; exact h), fun b b' x x' p p' h0 h1 h2 => hS.heap.apart b b' x x' p p' h0 (by rw [← hg0]; exact h1) (by rw [← hg0]; exact h2)⟩
    size := hS.size
    defers := hS.defers
    env := fun t v h => by
      rw [he0] at h
      obtain ⟨x, h1, h2⟩ := hS.env t v h
      refine ⟨x, h1, h2.ups (fun _ _ h => h) fun u r hu hr => ?_⟩
      rw [hμ1 u fun r' hr' ht => ?_]
      · exact hr
      · have := mentionsV_env (hslot r' hr' u ht).2 t v h
        rw [hu] at this
        cases this
    box := fun t cs h => by
      rw [hx0] at h
      obtain ⟨r, h1, h2⟩ := hS.box t cs h
      exact ⟨r, by rw [hμb t cs h]; exact h1, h2⟩
    bxap := fun t t' cs cs' r h0 h1 h2 h3 => by
      rw [hx0] at h1 h2
      rw [hμb t' cs' h2]
      rw [hμb t cs h1] at h3
      exact hS.bxap t t' cs cs' r h0 h1 h2 h3
    hap := fun t cs b x p h1 h2 h3 => by
      rw [hx0] at h1
      rw [hμb t cs h1]
      exact hS.hap t cs b x p h1 (by rw [← hg0]; exact h2) h3 }
  have hst0 : Step β μ σ w β μ σ0 w := {
    ext := fun _ _ h => h
    os := rfl
    tape := rfl
    output := rfl
    size := Nat.le_refl _
    fr := fun _ _ _ => rfl
    own := fun r h => .inl (by
      rcases h with ⟨b, x, p, e1, e2⟩ | ⟨t, cs, e1, e2⟩
      · exact .inl ⟨b, x, p, by rw [← hg0]; exact e1, e2⟩
      · rw [hx0] at e1
        exact .inr ⟨t, cs, e1, e2⟩)
    blks := fun b x p h1 h2 => .inl ⟨b, x, p, by rw [← hg0]; exact h1, h2, rfl⟩ }
  have hst1 : Step β μ σ0 w β μ1 σ0 { w with drawn := w.drawn + 1 } := {
    ext := fun _ _ h => h
    os := rfl
    tape := rfl
    output := rfl
    size := Nat.le_refl _
    fr := fun _ _ _ => rfl
    own := fun r h => .inl (by
      rcases h with ⟨b, x, p, e1, e2⟩ | ⟨t, cs, e1, e2⟩
      · exact .inl ⟨b, x, p, e1, e2⟩
      · exact .inr ⟨t, cs, e1, by rw [← hμb t cs (by rw [← hx0]; exact e1)]; exact e2⟩)
    blks := fun b x p h1 h2 => .inl ⟨b, x, p, h1, h2, rfl⟩ }
  have hlf : ∀ j, lf (Array.replicate ops.size false) j = false := fun j => by
    unfold lf
    rw [Array.getD_eq_getD_getElem?]
    by_cases h : j < ops.size <;> simp [h]
  have hI : Inv P X fi σ.h.next top σ0 T β μ w (lf (Array.replicate ops.size false)) a { w with drawn := w.drawn + 1 } β μ1 := by
    refine ⟨?_, ?_, fun _ _ => rfl, ?_, fun r hr _ hmk => ?_, fun r hr _ t ht => ?_, fun T2 r T1 he _ A hA => ?_⟩
    · rw [ab_none hlf, hn0]; exact hS1
    · rw [ab_none hlf]; exact hst1
    · rw [ab_none hlf, hn0]; exact Nat.le_refl _
    · obtain ⟨_, _, _, hok⟩ := hTr.mem hr
      exact hS.heap.fresh _ hok.nmLo
    · rw [ab_none hlf, he0]
      exact ⟨if_pos ⟨r, hr, ht⟩, (hslot r hr t ht).2⟩
    · rw [lastM_none hlf]
      have hr : r ∈ T := by rw [he]; simp
      obtain ⟨_, _, _, hok⟩ := hTr.mem hr
      obtain ⟨_, hf⟩ := hok.add hA
      cases A with
      | box t cs =>
        show get σ0.bx t = none
        rw [hx0]
        exact (hslot r hr t hf).1
      | blk b x =>
        show σ0.h.get b = none
        rw [hg0, hf.1]
        exact hfresh _ hok.nmLo
  refine draw_any hT hF hbt hTr hcov hR (fun L a' w' β' μ' hL hI' => ?_) ops.size _ a _ β μ1 (by simp) (fun s _ hs => by rw [hlf] at hs; cases hs) (Nat.le_trans cnt_le hTl) hI
  have hab : ab L σ0 T = ab allL σ0 T := ab_congr fun s hs => hL s hs
  have hs' := hI'.s
  have hst' := hI'.st
  have htop' := hI'.top
  rw [hab] at hs' hst' htop'
  exact hQ _ β' μ' a' w' hK hs' (hst0.trans hst') (Nat.le_trans hbt htop') hI'.old
end
end E
end Go.Proofs.Ytnfehccnofhmnaa
