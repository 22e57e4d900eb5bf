/-
  An abstract machine of this place's own: a region that draws its order: what holds between its operations. No condition.
-/
import Derived.Test.YtnfehccnofhmnaaE21
set_option linter.all false
namespace Go.Proofs.Ytnfehccnofhmnaa
open Go.RowKit
namespace E

def Add.fresh : Add → Mem → Prop
  | .box t _, m => get m.1 t = none
  | .blk b _, m => m.2.get b = none

def with1 (L : Nat → Bool) (i : Nat) : Nat → Bool := fun j => if j = i then true else L j

section
variable {P : Program} {X : Ctx} {fi : Fi} {ops : List Oper} {wins : List (Nat × Nat × Nat)} {base top : Nat} {σ σ0 : St} {L L' : Nat → Bool} {r s : Rec} {T T1 T2 : List Rec}

theorem with1_le {i j : Nat} (h : with1 L i j = false) : L j = false := by
  unfold with1 at h
  split at h
  · cases h
  · exact h
theorem with1_ne {i j : Nat} (h : j ≠ i) : with1 L i j = L j := by simp [with1, h]
theorem with1_same {i : Nat} : with1 L i i = true := by simp [with1]

theorem ab_congr (h : ∀ s ∈ T, L s.s.i = L' s.s.i) : ab L σ T = ab L' σ T := by
  induction T with
  | nil => rfl
  | cons r T ih => rw [ab, ab, ih fun s hs => h s (by simp [hs]), h r (by simp)]

theorem lastM_congr {m : Mem} (h : ∀ s ∈ T, s.eff.isMem = true → L s.s.i = L' s.s.i) : lastM L m T = lastM L' m T := by
  induction T with
  | nil => rfl
  | cons r T ih =>
    have ih := ih fun s hs => h s (by simp [hs])
    have h0 := h r (by simp)
    rw [lastM, lastM]
    cases he : r.eff with
    | mem bx h' => rw [he] at h0; simp only [h0 rfl, ih]
    | _ => exact ih

theorem boxSlot_dst {o : Oper} {t : Nat} (h : boxSlot fi o = some t) : o.dst = some t ∧ okind o = .alloc := by
  unfold boxSlot at h
  have key : (match o.dst with | some t => cond (fi.prom.contains t) (some t) none | none => none) = some t → o.dst = some t := fun h => by
    split at h
    · rename_i u hu
      cases hp : fi.prom.contains u <;> rw [hp] at h
      · cases h
      · simp only [cond_true, Option.some.injEq] at h
        rw [hu, h]
    · cases h
  split at h
  · rename_i ho
    exact ⟨key h, by simp [okind, ho]⟩
  · rename_i ho
    exact ⟨key h, by simp [okind, ho]⟩
  · cases h

/-- What is made behind a part of the region is not in that part. -/
theorem fresh_at (hT : TrOk P X fi ops wins base top σ0 (T2 ++ T1)) (hn : NoMem L T2)
    (hf : ∀ T2' s T1', T2 ++ T1 = T2' ++ s :: T1' → NoMem L T2' → ∀ A, s.eff = .add A → A.fresh (lastM L σ0.mem (T2 ++ T1)))
    (hs : s ∈ T2) {A : Add} (hA : s.eff = .add A) : A.fresh (ab L σ0 T1).mem := by
  obtain ⟨T21, T22, rfl⟩ := List.append_of_mem hs
  have hf := hf T21 s (T22 ++ T1) (by simp) (fun x hx => hn x (by simp [hx])) A hA
  rw [lastM_noMem hn] at hf
  obtain ⟨T12, T11, rfl, h2, h3⟩ := lastM_split L σ0 T1
  rw [← h3] at hf
  have hok : RecOk P X fi ops wins base top σ0 s (T22 ++ (T12 ++ T11)) := by
    rw [List.append_assoc, List.cons_append] at hT
    exact hT.split.1
  have hT2 : TrOk P X fi ops wins base top σ0 (T12 ++ T11) := hT.tail
  obtain ⟨hk, hfit⟩ := hok.add hA
  rw [ab_append]
  cases A with
  | box t cs =>
    show get (ab L (ab L σ0 T11) T12).bx t = none
    rw [ab_bx h2]
    cases hx : addX L T12 t with
    | none => exact hf
    | some y =>
      obtain ⟨q, g1, _, g3⟩ := addX_mem hx
      obtain ⟨_, T', _, hq⟩ := hT2.mem (List.mem_append_left _ g1)
      obtain ⟨_, gf⟩ := hq.add g3
      exact absurd (boxSlot_dst hfit).1 (pair_alloc (hok.pair q (by simp [g1])) (.inr hk) t (boxSlot_dst gf).1)
  | blk b x =>
    show (ab L (ab L σ0 T11) T12).h.get b = none
    rw [ab_h h2]
    cases hx : addH L T12 b with
    | none => exact hf
    | some y =>
      obtain ⟨q, g1, _, g3⟩ := addH_mem hx
      obtain ⟨_, T', _, hq⟩ := hT2.mem (List.mem_append_left _ g1)
      obtain ⟨_, gf⟩ := hq.add g3
      have := hok.nmD q (by simp [g1]) gf.2.1
      have e1 : b = q.nm := gf.1
      have e2 : b = s.nm := hfit.1
      omega

/-- What holds between the operations. -/
structure Inv (P : Program) (X : Ctx) (fi : Fi) (base top : Nat) (σ0 : St) (T : List Rec) (β0 : Pls) (μ0 : Fms) (w0 : World) (L : Nat → Bool) (a : Act) (w : World) (β : Pls) (μ : Fms) : Prop where
  s : SRel (ab L σ0 T).h.next β μ fi.nt (ab L σ0 T) a w
  st : Step β0 μ0 σ0 w0 β μ (ab L σ0 T) w
  old : ∀ b, b < base → β b = β0 b
  top : top ≤ (ab L σ0 T).h.next
  nms : ∀ r ∈ T, L r.s.i = false → makes fi r.s.o = true → β r.nm = none
  bxs : ∀ r ∈ T, L r.s.i = false → ∀ t, boxSlot fi r.s.o = some t → μ t = none ∧ ((ab L σ0 T).env.any fun p => mentionsV t p.2) = false
  fresh : ∀ T2 r T1, T = T2 ++ r :: T1 → NoMem L T2 → ∀ A, r.eff = .add A → A.fresh (lastM L σ0.mem T)

theorem mentions_none {β : Pls} {μ : Fms} {t : Nat} (hμ : μ t = none) {v : V} {x : Value} (h : VRel β μ v x) : mentionsV t v = false := by
  have key : ∀ {c : C} {x : Value}, CRel β μ c x → mentionsC t c = false := fun {c x} h => by
    cases c with
    | lp u o =>
      obtain ⟨r, h1, _⟩ := h
      show Nat.beq u t = false
      refine nbeq_ne fun e => ?_
      subst e
      rw [hμ] at h1
      cases h1
    | _ => rfl
  have keys : ∀ {cs : List C} {xs : List Value}, All2 (CRel β μ) cs xs → cs.any (mentionsC t) = false := fun {cs} => by
    induction cs with
    | nil => intro _ _; rfl
    | cons c cs ih =>
      intro xs h
      cases xs with
      | nil => exact h.elim
      | cons x xs => rw [List.any_cons, key h.1, ih h.2]; rfl
  cases v with
  | one c => exact key h
  | agg cs => obtain ⟨l, _, h2⟩ := h; exact keys h2
  | tup vs =>
    obtain ⟨l, _, h2⟩ := h
    rw [mentionsV, List.any_eq_false]
    intro u hu
    obtain ⟨i, hi⟩ := List.getElem?_of_mem hu
    obtain ⟨y, _, hy⟩ := h2.get hi
    cases u with
    | one c => show ¬ mentionsC t c = true; rw [key hy]; simp
    | agg cs => obtain ⟨l, _, h3⟩ := hy; show ¬ cs.any (mentionsC t) = true; rw [keys h3]; simp
    | tup _ => exact hy.elim

namespace Sit
variable (S : Sit P X fi ops wins base top σ0 L T2 r T1)
include S

theorem ne1 (hs : s ∈ T1) : s.s.i ≠ r.s.i := siFind_none S.rok.new s.s (List.mem_map.2 ⟨s, hs, rfl⟩)
theorem ne2 (hs : s ∈ T2) : s.s.i ≠ r.s.i := by
  obtain ⟨_, _, _, h⟩ := S.tr.later hs
  exact (siFind_none h.new r.s (List.mem_map.2 ⟨r, by simp, rfl⟩)).symm

theorem ab_old : ab L σ0 (T2 ++ r :: T1) = ab L (ab L σ0 T1) T2 := by rw [ab_append, ab, S.nl, cond_false]
theorem ab_new : ab (with1 L r.s.i) σ0 (T2 ++ r :: T1) = ab L (r.act (ab L σ0 T1)) T2 := by
  rw [ab_append, ab, with1_same, cond_true, ab_congr (T := T2) (L' := L) fun s hs => with1_ne (S.ne2 hs), ab_congr (T := T1) (L' := L) fun s hs => with1_ne (S.ne1 hs)]

theorem env_new (t : Nat) : get (ab (with1 L r.s.i) σ0 (T2 ++ r :: T1)).env t = if r.s.o.dst = some t then some r.v else get (ab L σ0 (T2 ++ r :: T1)).env t := by
  rw [S.ab_new, S.ab_old]
  split
  · rename_i hd
    rw [ab_env_none fun s hs hl => (apart_l (S.apart2 hs hl)).2.2 t hd, Rec.act, get_setE, if_pos hd]
  · rename_i hd
    refine ab_env ?_ fun _ _ _ => rfl
    rw [Rec.act, get_setE, if_neg hd, eff_env]

theorem mem_new {p : Nat × V} (h : p ∈ (ab (with1 L r.s.i) σ0 (T2 ++ r :: T1)).env) : p ∈ (ab L σ0 (T2 ++ r :: T1)).env ∨ p.2 = r.v := by
  rw [ab_mem] at h
  rcases h with h | ⟨s, h1, h2, h3, h4⟩
  · exact .inl (ab_mem.2 (.inl h))
  · by_cases he : s.s.i = r.s.i
    · right
      simp only [List.mem_append, List.mem_cons] at h1
      rcases h1 with h1 | rfl | h1
      · exact absurd he (S.ne2 h1)
      · exact h4.symm
      · exact absurd he (S.ne1 h1)
    · rw [with1_ne he] at h2
      exact .inl (ab_mem.2 (.inr ⟨s, h1, h2, h3, h4⟩))

/-- Two that make something have other names, other slots. -/
theorem names (hs : s ∈ T2 ++ r :: T1) (hne : s.s.i ≠ r.s.i) (h1 : makes fi s.s.o = true) (h2 : makes fi r.s.o = true) : s.nm ≠ r.nm := by
  simp only [List.mem_append, List.mem_cons] at hs
  rcases hs with hs | rfl | hs
  · obtain ⟨_, _, _, h⟩ := S.tr.later hs
    have := h.nmD r (by simp) h2
    omega
  · exact absurd rfl hne
  · have := S.rok.nmD s hs h1
    omega

theorem slots (hs : s ∈ T2 ++ r :: T1) (hne : s.s.i ≠ r.s.i) (hk : okind s.s.o = .alloc) {t : Nat} (hd : s.s.o.dst = some t) : r.s.o.dst ≠ some t := by
  simp only [List.mem_append, List.mem_cons] at hs
  rcases hs with hs | rfl | hs
  · obtain ⟨_, _, _, h⟩ := S.tr.later hs
    exact fun he => pair_alloc (h.pair r (by simp)) (.inr hk) t he hd
  · exact absurd rfl hne
  · exact pair_alloc (S.rok.pair s hs) (.inl hk) t hd

/-- Behind an operation: what holds then. -/
theorem fin {β β' β0 : Pls} {μ μ' μ0 : Fms} {a : Act} {w w' w0 : World} {σ1 : St} {x : Value}
    (hI : Inv P X fi base top σ0 (T2 ++ r :: T1) β0 μ0 w0 L a w β μ)
    (hS : SRel (ab (with1 L r.s.i) σ0 (T2 ++ r :: T1)).h.next β' μ' fi.nt σ1 a w')
    (hst : Step β μ (ab L σ0 (T2 ++ r :: T1)) w β' μ' σ1 w')
    (henv : σ1.env = (ab L σ0 (T2 ++ r :: T1)).env) (hmem : MemLe (ab (with1 L r.s.i) σ0 (T2 ++ r :: T1)) σ1) (hv : VRel β' μ' r.v x)
    (hN : (ab L σ0 (T2 ++ r :: T1)).h.next ≤ (ab (with1 L r.s.i) σ0 (T2 ++ r :: T1)).h.next)
    (hβ : ∀ b, b < top → (b ≠ r.nm ∨ makes fi r.s.o = false) → β' b = β b) (hμ : ∀ t, r.s.o.dst ≠ some t → μ' t = μ t)
    (hb : base ≤ top)
    (hfr : ∀ T2' s T1', T2 ++ r :: T1 = T2' ++ s :: T1' → NoMem (with1 L r.s.i) T2' → ∀ A, s.eff = .add A → A.fresh (lastM (with1 L r.s.i) σ0.mem (T2 ++ r :: T1))) :
    Inv P X fi base top σ0 (T2 ++ r :: T1) β0 μ0 w0 (with1 L r.s.i) (a.put r.s.o.dst x) w' β' μ' := by
  have hdst := S.rok.dst
  have hput : put fi r.s.o.dst r.v σ1 = some (setE r.s.o.dst r.v σ1) := by
    cases hd : r.s.o.dst with
    | none => rfl
    | some t => simp only [put, if_pos (hdst t hd)]; rfl
  obtain ⟨h1, h2, h3⟩ := put_ok hS hv hput
  have hnm : makes fi r.s.o = false ∨ r.nm ≥ base := .inr S.rok.nmLo
  refine ⟨h1.less (fun t v h => ?_) ⟨fun t cs h => ?_, fun b y h => ?_⟩, (hI.st.trans hst).same hmem, fun b hb' => ?_, Nat.le_trans hI.top hN, fun s hs hl hm => ?_, fun s hs hl t ht => ?_, hfr⟩
  · rw [S.env_new] at h
    rw [get_setE, henv]
    exact h
  · rw [h3]; exact hmem.1 t cs h
  · rw [h2]; exact hmem.2 b y h
  · rw [hβ b (Nat.lt_of_lt_of_le hb' hb) (.inl (by have := S.rok.nmLo; omega))]
    exact hI.old b hb'
  · obtain ⟨_, _, _, hok⟩ := S.tr.mem hs
    have hl' := with1_le hl
    have hne : s.s.i ≠ r.s.i := fun e => by rw [e, with1_same] at hl; cases hl
    rw [hβ _ (hok.nmHi hm) ?_]
    · exact hI.nms s hs hl' hm
    · cases hmr : makes fi r.s.o with
      | false => exact .inr rfl
      | true => exact .inl (S.names hs hne hm hmr)
  · have hl' := with1_le hl
    have hne : s.s.i ≠ r.s.i := fun e => by rw [e, with1_same] at hl; cases hl
    obtain ⟨hd, hk⟩ := boxSlot_dst ht
    obtain ⟨g1, g2⟩ := hI.bxs s hs hl' t ht
    have hμt : μ' t = none := by rw [hμ t (S.slots hs hne hk hd)]; exact g1
    refine ⟨hμt, ?_⟩
    rw [List.any_eq_false] at g2 ⊢
    intro p hp
    rcases S.mem_new hp with hp | hp
    · exact g2 p hp
    · rw [hp, mentions_none hμt hv]; simp

/-- .. of an operation that is none of the chain. -/
theorem fresh_other {β : Pls} {μ : Fms} {β0 : Pls} {μ0 : Fms} {a : Act} {w w0 : World} (hI : Inv P X fi base top σ0 (T2 ++ r :: T1) β0 μ0 w0 L a w β μ) (hm : r.eff.isMem = false) :
    ∀ T2' s T1', T2 ++ r :: T1 = T2' ++ s :: T1' → NoMem (with1 L r.s.i) T2' → ∀ A, s.eff = .add A → A.fresh (lastM (with1 L r.s.i) σ0.mem (T2 ++ r :: T1)) := fun T2' s T1' he hn A hA => by
  rw [lastM_congr (L := with1 L r.s.i) (L' := L) fun x hx hxm => with1_ne fun e => ?_]
  · exact hI.fresh T2' s T1' he (fun x hx hxm => with1_le (hn x hx hxm)) A hA
  · simp only [List.mem_append, List.mem_cons] at hx
    rcases hx with hx | rfl | hx
    · exact S.ne2 hx e
    · rw [hm] at hxm; cases hxm
    · exact S.ne1 hx e
end Sit
end
end E
end Go.Proofs.Ytnfehccnofhmnaa
