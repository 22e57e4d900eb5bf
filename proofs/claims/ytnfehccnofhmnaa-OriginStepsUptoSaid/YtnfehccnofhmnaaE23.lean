/-
  An abstract machine of this place's own: a region that draws its order: an operation that is taken now. No condition.
-/
import Derived.Test.YtnfehccnofhmnaaE22
set_option linter.all false
namespace Go.Proofs.Ytnfehccnofhmnaa
open Go.RowKit
namespace E

section
variable {P : Program} {X : Ctx} {fi : Fi} {ops : List Oper} {wins : List (Nat × Nat × Nat)} {base top : Nat} {σ σ1 σ1' σ' σ0 : St} {L L' : Nat → Bool} {r s : Rec} {T T1 T2 : List Rec}
variable {N N' nm nt : Nat} {β β' β0 : Pls} {μ μ' μ0 : Fms} {a : Act} {w w' w0 : World} {o : Oper} {v : V} {x : Value}

theorem after_fresh (hS : SRel N β μ nt σ a w) (hm : MemLe σ1 σ) (hst : Step β μ σ1 w β' μ' σ1' w') (_hS' : SRel N' β' μ' nt σ1' a w') {b : Nat} {y : Blk} (h1 : σ.h.get b = some y) (h2 : σ1.h.get b = none) (h3 : y.rw = true) : σ1'.h.get b = none := by
  cases hz : σ1'.h.get b with
  | none => rfl
  | some z =>
    exfalso
    obtain ⟨p, hp, hb⟩ := hS.heap.blk b y h1
    rcases hst.blks b z p hz (hst.ext b p hp) with ⟨b0, x0, p0, k1, k2, k3⟩ | hge
    · exact hS.heap.apart b b0 y x0 p p0 (fun e => by subst e; rw [h2] at k1; cases k1) h1 (hm.2 b0 x0 k1) hp k2 h3 k3.symm
    · have := hb.lt
      omega

theorem after_freshX (hS : SRel N β μ nt σ a w) (hm : MemLe σ1 σ) (hst : Step β μ σ1 w β' μ' σ1' w') {t : Nat} {y : List C} (h1 : get σ.bx t = some y) (h2 : get σ1.bx t = none) (h3 : μ' t = μ t) : get σ1'.bx t = none := by
  cases hz : get σ1'.bx t with
  | none => rfl
  | some z =>
    exfalso
    obtain ⟨q, hq, hb⟩ := hS.box t y h1
    rcases hst.own q (.inr ⟨t, z, hz, by rw [h3]; exact hq⟩) with hmn | hge
    · rcases hmn with ⟨b0, x0, p0, e1, e2, e3, e4⟩ | ⟨t0, cs0, e1, e2⟩
      · exact hS.hap t y b0 x0 p0 h1 (hm.2 b0 x0 e1) e3 (by rw [hq, e4])
      · exact hS.bxap t t0 y cs0 q (fun e => by subst e; rw [h2] at e1; cases e1) h1 (hm.1 t0 cs0 e1) hq e2
    · have := hb.lt
      omega

theorem addH_some {b : Nat} {y : Blk} (hs : s ∈ T) (hl : L s.s.i = true) (he : s.eff = .add (.blk b y)) : ∃ z, addH L T b = some z := by
  induction T with
  | nil => cases hs
  | cons r T ih =>
    rw [addH]
    simp only [List.mem_cons] at hs
    rcases hs with rfl | hs
    · rw [he]
      simp [hl]
    · obtain ⟨z, hz⟩ := ih hs
      split
      · split
        · exact ⟨_, rfl⟩
        · exact ⟨z, hz⟩
      · exact ⟨z, hz⟩

theorem addX_some {b : Nat} {y : List C} (hs : s ∈ T) (hl : L s.s.i = true) (he : s.eff = .add (.box b y)) : ∃ z, addX L T b = some z := by
  induction T with
  | nil => cases hs
  | cons r T ih =>
    rw [addX]
    simp only [List.mem_cons] at hs
    rcases hs with rfl | hs
    · rw [he]
      simp [hl]
    · obtain ⟨z, hz⟩ := ih hs
      split
      · split
        · exact ⟨_, rfl⟩
        · exact ⟨z, hz⟩
      · exact ⟨z, hz⟩

/-- An operation, in the model: names only where something is made. -/
theorem op_at (hT : TtOk P X) (hF : FlatOk P X) (hS : SRel N β μ nt σ a w) (h1 : makes fi o = true → nm < N ∧ β nm = none) (h : ∀ nm', (nm' = nm ∨ makes fi o = false) → op P X fi nm' o σ = some (v, σ')) : OpOk P fi N nm β μ nt σ a w o v σ' := by
  cases hm : makes fi o with
  | true =>
    obtain ⟨g1, g2⟩ := h1 hm
    exact op_ok hT hF (Nat.le_refl _) g1 g2 hS (h nm (.inl rfl))
  | false =>
    obtain ⟨n, x, w', β', μ', k1, k2, k3, k4, k5, k6, k7, k8⟩ := op_ok (N' := N + 1) (nm := N) hT hF (Nat.le_succ _) (Nat.lt_succ_self _) (hS.heap.fresh _ (Nat.le_refl _)) hS (h N (.inr hm))
    refine ⟨n, x, w', β', μ', k1, k2, k3, ⟨⟨fun b hb => ?_, k4.heap.blk, k4.heap.apart⟩, k4.size, k4.defers, k4.env, k4.box, k4.bxap, k4.hap⟩, k5, fun b _ => k6 b (.inr hm), k7, k8⟩
    rw [k6 b (.inr hm)]
    exact hS.heap.fresh b hb

theorem nMem_tight : ∀ {T : List Rec}, nMem allL T ≤ nMem L T → ∀ s ∈ T, s.eff.isMem = true → L s.s.i = true := fun {T} => by
  induction T with
  | nil => intro _ s hs; cases hs
  | cons r T ih =>
    intro h
    have hle : nMem L T ≤ nMem allL T := nMem_le T
    have key : (r.eff.isMem = true → L r.s.i = true) ∧ nMem allL T ≤ nMem L T := by
      cases hm : r.eff.isMem <;> cases hl : L r.s.i <;> simp [nMem, hm, hl, show allL r.s.i = true from rfl] at h ⊢ <;> omega
    intro s hs hm
    simp only [List.mem_cons] at hs
    rcases hs with rfl | hs
    · exact key.1 hm
    · exact ih key.2 s hs hm

theorem chainAnc_le {m : Nat} (hm : ∀ j, Nat.testBit m j = true → L j = true) : ∀ {T : List Rec}, TrOk P X fi ops wins base top σ0 T → chainAnc m (T.map (·.s)) ≤ nMem L T := fun {T} => by
  induction T with
  | nil => intro _; exact Nat.le_refl _
  | cons r T ih =>
    intro h
    have ih := ih h.1
    rw [List.map_cons, chainAnc, nMem]
    cases hb : Nat.testBit m r.s.i with
    | false =>
      rw [Bool.and_false, cond_false]
      cases r.eff.isMem && L r.s.i <;> simp only [cond_true, cond_false] <;> omega
    | true =>
      rw [hm _ hb, Bool.and_true, Bool.and_true]
      have : (okind r.s.o).isChain = r.eff.isMem := by
        have := h.2.isMem
        cases he : r.eff.isMem with
        | true => rw [this.1 he]; rfl
        | false =>
          cases hk : okind r.s.o with
          | chain => rw [this.2 hk] at he; cases he
          | _ => rfl
      rw [this]
      cases r.eff.isMem <;> simp only [cond_true, cond_false] <;> omega

namespace Sit
variable (S : Sit P X fi ops wins base top σ0 L T2 r T1)
include S

/-- What is made behind the operation is not in what stands ahead of it. -/
theorem freshH (hI : Inv P X fi base top σ0 (T2 ++ r :: T1) β0 μ0 w0 L a w β μ) (hn : NoMem L T2) {A : Add} (hs : s ∈ T2) (hA : s.eff = .add A) : A.fresh (ab L σ0 T1).mem := by
  have := fresh_at (T1 := r :: T1) S.tr hn (hI.fresh) hs hA
  rw [ab, S.nl, cond_false] at this
  exact this

theorem le1 (hI : Inv P X fi base top σ0 (T2 ++ r :: T1) β0 μ0 w0 L a w β μ) (hn : NoMem L T2) : MemLe (ab L σ0 T1) (ab L σ0 (T2 ++ r :: T1)) := by
  rw [S.ab_old]
  refine ab_le hn (fun b y h => ?_) fun t y h => ?_
  · obtain ⟨s, h1, _, h3⟩ := addH_mem h
    exact S.freshH hI hn h1 h3
  · obtain ⟨s, h1, _, h3⟩ := addX_mem h
    exact S.freshH hI hn h1 h3

theorem nnew : (ab (with1 L r.s.i) σ0 (T2 ++ r :: T1)).h.next = (ab L (r.act (ab L σ0 T1)) T2).h.next := by rw [S.ab_new]

/-- An operation of the chain. -/
theorem chain_fin (hI : Inv P X fi base top σ0 (T2 ++ r :: T1) β0 μ0 w0 L a w β μ) (hk : okind r.s.o = .chain) {bx' : List (Nat × List C)} {h' : Heap} (he : r.eff = .mem bx' h') (hb : base ≤ top)
    (hS' : SRel h'.next β' μ' fi.nt ⟨(ab L σ0 (T2 ++ r :: T1)).env, bx', h'⟩ a w')
    (hst : Step β μ ⟨(ab L σ0 (T2 ++ r :: T1)).env, r.pre.bx, r.pre.h⟩ w β' μ' ⟨(ab L σ0 (T2 ++ r :: T1)).env, bx', h'⟩ w')
    (hv : VRel β' μ' r.v x) (hN : (ab L σ0 (T2 ++ r :: T1)).h.next ≤ h'.next)
    (hβ : ∀ b, b < top → (b ≠ r.nm ∨ makes fi r.s.o = false) → β' b = β b) (hμ : ∀ t, r.s.o.dst ≠ some t → μ' t = μ t) :
    Inv P X fi base top σ0 (T2 ++ r :: T1) β0 μ0 w0 (with1 L r.s.i) (a.put r.s.o.dst x) w' β' μ' := by
  have hn := S.noMem2 (.inl hk)
  have hpre := S.mem_pre (S.chain1 hk)
  have hp1 : (ab L σ0 T1).bx = r.pre.bx := congrArg Prod.fst hpre
  have hp2 : (ab L σ0 T1).h = r.pre.h := congrArg Prod.snd hpre
  have hm : MemLe ⟨(ab L σ0 (T2 ++ r :: T1)).env, r.pre.bx, r.pre.h⟩ (ab L σ0 (T2 ++ r :: T1)) := by
    have := S.le1 hI hn
    refine ⟨fun t cs h => this.1 t cs (by rw [hp1]; exact h), fun b y h => this.2 b y (by rw [hp2]; exact h)⟩
  have hact : (r.act (ab L σ0 T1)).bx = bx' ∧ (r.act (ab L σ0 T1)).h = h' := by
    simp only [Rec.act, setE_bx, setE_h, he, Eff.on, and_self]
  have hnext : (ab (with1 L r.s.i) σ0 (T2 ++ r :: T1)).h.next = h'.next := by
    rw [S.ab_new, ab_next hn, hact.2]
  -- what the later ones have made
  have hslot : ∀ s ∈ T2, ∀ t cs, s.eff = .add (.box t cs) → μ' t = μ t := fun s hs t cs hA => by
    obtain ⟨_, _, _, hok⟩ := S.tr.later hs
    obtain ⟨_, hf⟩ := hok.add hA
    obtain ⟨hd, hka⟩ := boxSlot_dst hf
    exact hμ t (S.slots (by simp [hs]) (S.ne2 hs) hka hd)
  obtain ⟨k1, k2⟩ := readd (σ' := { ab (with1 L r.s.i) σ0 (T2 ++ r :: T1) with env := (ab L σ0 (T2 ++ r :: T1)).env }) hI.s hm hS' hst (fun b y h => by
      have h : (ab (with1 L r.s.i) σ0 (T2 ++ r :: T1)).h.get b = some y := h
      rw [S.ab_new, ab_h hn, hact.2] at h
      cases hx : addH L T2 b with
      | none => rw [hx] at h; exact .inl h
      | some z =>
        rw [hx] at h
        simp only [Option.some_or, Option.some.injEq] at h
        subst h
        right
        obtain ⟨s, g1, g2, g3⟩ := addH_mem hx
        have hfr : (ab L σ0 T1).h.get b = none := S.freshH hI hn g1 g3
        obtain ⟨_, _, _, hok⟩ := S.tr.later g1
        refine ⟨?_, by rw [← hp2]; exact hfr, (hok.add g3).2.2.2⟩
        rw [S.ab_old, ab_h hn, hx]
        rfl) (fun t cs h => by
      have h : get (ab (with1 L r.s.i) σ0 (T2 ++ r :: T1)).bx t = some cs := h
      rw [S.ab_new, ab_bx hn, hact.1] at h
      cases hx : addX L T2 t with
      | none => rw [hx] at h; exact .inl h
      | some z =>
        rw [hx] at h
        simp only [Option.some_or, Option.some.injEq] at h
        subst h
        right
        obtain ⟨s, g1, g2, g3⟩ := addX_mem hx
        have hfr : get (ab L σ0 T1).bx t = none := S.freshH hI hn g1 g3
        refine ⟨?_, by rw [← hp1]; exact hfr, hslot s g1 t _ g3⟩
        rw [S.ab_old, ab_bx hn, hx]
        rfl) (fun _ _ h => h)
  refine S.fin hI (by rw [hnext]; exact k1) k2 rfl ⟨fun _ _ h => h, fun _ _ h => h⟩ hv (by rw [hnext]; exact hN) hβ hμ hb fun T2' s T1' hdec hn' A hA => ?_
  have hlast : lastM (with1 L r.s.i) σ0.mem (T2 ++ r :: T1) = (bx', h') := by
    rw [lastM_noMem fun x hx hxm => by rw [with1_ne (S.ne2 hx)]; exact hn x hx hxm]
    simp only [lastM, he, with1_same, cond_true]
  rw [hlast]
  have hs2 : s ∈ T2 := by
    have hne : s ≠ r := fun e => by rw [e, he] at hA; cases hA
    rcases List.append_eq_append_iff.1 hdec with ⟨us, e1, e2⟩ | ⟨us, e1, e2⟩
    · cases us with
      | nil => simp only [List.nil_append, List.cons.injEq] at e2; exact absurd e2.1.symm hne
      | cons c us =>
        simp only [List.cons_append, List.cons.injEq] at e2
        have := hn' r (by rw [e1, ← e2.1]; simp) (by rw [he]; rfl)
        rw [with1_same] at this
        cases this
    · cases us with
      | nil => simp only [List.nil_append, List.cons.injEq] at e2; exact absurd e2.1 hne
      | cons c us =>
        simp only [List.cons_append, List.cons.injEq] at e2
        rw [e1, ← e2.1]
        simp
  obtain ⟨_, _, _, hok⟩ := S.tr.later hs2
  obtain ⟨hka, hfit⟩ := hok.add hA
  have hfr := S.freshH hI hn hs2 hA
  cases A with
  | box t cs =>
    show get bx' t = none
    obtain ⟨hd, _⟩ := boxSlot_dst hfit
    cases hl : L s.s.i with
    | false =>
      cases hz : get bx' t with
      | none => rfl
      | some z =>
        obtain ⟨q, hq, _⟩ := hS'.box t z hz
        rw [hslot s hs2 t cs hA, (hI.bxs s (by simp [hs2]) hl t hfit).1] at hq
        cases hq
    | true =>
      obtain ⟨z, hz⟩ := addX_some (L := L) hs2 hl hA
      refine after_freshX (σ1' := ⟨(ab L σ0 (T2 ++ r :: T1)).env, bx', h'⟩) (y := z) hI.s hm hst ?_ ?_ (hslot s hs2 t cs hA)
      · rw [S.ab_old, ab_bx hn, hz]; rfl
      · show get r.pre.bx t = none
        rw [← hp1]; exact hfr
  | blk b y =>
    show h'.get b = none
    obtain ⟨hb1, hmk, hrw⟩ := hfit
    cases hl : L s.s.i with
    | false =>
      cases hz : h'.get b with
      | none => rfl
      | some z =>
        obtain ⟨q, hq, _⟩ := hS'.heap.blk b z hz
        rw [hβ b (by rw [hb1]; exact hok.nmHi hmk) ?_, hb1, hI.nms s (by simp [hs2]) hl hmk] at hq
        · cases hq
        · cases hmr : makes fi r.s.o with
          | false => exact .inr rfl
          | true => rw [hb1]; exact .inl (S.names (by simp [hs2]) (S.ne2 hs2) hmk hmr)
    | true =>
      obtain ⟨z, hz⟩ := addH_some (L := L) hs2 hl hA
      obtain ⟨s', g1, _, g3⟩ := addH_mem hz
      obtain ⟨_, _, _, hok'⟩ := S.tr.later g1
      refine after_fresh (σ1' := ⟨(ab L σ0 (T2 ++ r :: T1)).env, bx', h'⟩) (y := z) hI.s hm hst hS' ?_ ?_ (hok'.add g3).2.2.2
      · rw [S.ab_old, ab_h hn, hz]; rfl
      · show r.pre.h.get b = none
        rw [← hp2]; exact hfr

/-- A part of the state: what the chain's operation had ahead of it. -/
theorem weak (hI : Inv P X fi base top σ0 (T2 ++ r :: T1) β0 μ0 w0 L a w β μ) (hk : okind r.s.o = .chain) :
    SRel r.pre.h.next β μ fi.nt ⟨(ab L σ0 (T2 ++ r :: T1)).env, r.pre.bx, r.pre.h⟩ a w ∧ (ab L σ0 (T2 ++ r :: T1)).h.next = r.pre.h.next := by
  have hn := S.noMem2 (.inl hk)
  have hpre := S.mem_pre (S.chain1 hk)
  have hp1 : (ab L σ0 T1).bx = r.pre.bx := congrArg Prod.fst hpre
  have hp2 : (ab L σ0 T1).h = r.pre.h := congrArg Prod.snd hpre
  have hnx : (ab L σ0 (T2 ++ r :: T1)).h.next = r.pre.h.next := by rw [S.ab_old, ab_next hn, hp2]
  have := S.le1 hI hn
  refine ⟨?_, hnx⟩
  rw [← hnx]
  exact hI.s.less (fun _ _ h => h) ⟨fun t cs h => this.1 t cs (by rw [hp1]; exact h), fun b y h => this.2 b y (by rw [hp2]; exact h)⟩

/-- What a reading reads now. -/
theorem reading (hI : Inv P X fi base top σ0 (T2 ++ r :: T1) β0 μ0 w0 L a w β μ) (hk : okind r.s.o = .read) (hw : wanted ops r.s.o r.pre = some true)
    (hR : r.s.tight = false → RdOk P X fi (mems σ0.mem (T2 ++ r :: T1)) ⟨r.s.o, r.pre.env, r.v, r.lo, r.s.hi⟩) (nm' : Nat) :
    op P X fi nm' r.s.o (ab L σ0 (T2 ++ r :: T1)) = some (r.v, ab L σ0 (T2 ++ r :: T1)) := by
  have hrd := S.rok.rd
  rw [readOk, hk] at hrd
  simp only [Bool.and_eq_true, Nat.ble_eq] at hrd
  obtain ⟨hlo, hhi⟩ := hrd
  have hlo' : r.lo ≤ nMem L T1 := Nat.le_trans hlo (chainAnc_le S.anc S.tr.split.2)
  have hrm : r.eff.isMem = false := by
    cases h : r.eff.isMem with
    | false => rfl
    | true => rw [S.rok.isMem.1 h] at hk; cases hk
  have hr0 : ∀ L : Nat → Bool, nMem L (r :: T1) = nMem L T1 := fun L => by rw [nMem, hrm, Bool.false_and, cond_false]
  cases ht : r.s.tight with
  | true =>
    have hb := S.rok.bnd
    rw [ht, boundsOf] at hb
    split at hb
    · simp at hb
    simp only [Prod.mk.injEq, and_true] at hb
    obtain ⟨hb1, hb2⟩ := hb
    have hcnt := S.rok.cnt
    have hall := nMem_tight (L := L) (T := T1) (by omega)
    have h1 : ∀ s ∈ T1, okind s.s.o = .chain ∨ okind s.s.o = .alloc → L s.s.i = true := fun s hs h => by
      obtain ⟨_, _, _, hok⟩ := S.tr.split.2.mem hs
      rcases h with h | h
      · exact hall s hs (hok.isMem.2 h)
      · cases hl : L s.s.i with
        | true => rfl
        | false => exact absurd h (pair_read (S.rok.pair s hs) (S.ahead hs hl) hk ht)
    have hn : NoMem L T2 := fun s hs hm => by
      cases hl : L s.s.i with
      | false => rfl
      | true =>
        obtain ⟨T21, T22, _, h⟩ := S.tr.later hs
        have := (pair_chain (h.pair r (by simp)) (S.behind hs hl) (h.isMem.1 hm)).2.2 hk
        have hc := h.cnt
        rw [nMem_append, hr0] at hc
        omega
    have hpre := S.mem_pre h1
    have hm : MemLe r.pre (ab L σ0 (T2 ++ r :: T1)) := (MemLe.of_mem hpre.symm).trans (S.le1 hI hn)
    rcases S.rok.did with ⟨h, _⟩ | ⟨_, ⟨h, _⟩ | ⟨_, σ1, hop, _⟩⟩
    · rw [hw] at h; cases h
    · rw [isCall_chain h] at hk; cases hk
    · exact (op_float (.inr hk) S.evs_same (fun _ => hm) hop).1
  | false =>
    have hR := hR ht
    have hpo := preOk S.tr S.cl
    have hat := lastM_at σ0.mem hpo
    have hk1 : r.lo ≤ nMem L (T2 ++ r :: T1) := by rw [nMem_append, hr0]; omega
    have hk2 : nMem L (T2 ++ r :: T1) ≤ r.s.hi := by
      have hcnt := S.rok.cnt
      have hle : nMem L T1 ≤ nMem allL T1 := nMem_le T1
      have key : ∀ T2' T3, T2 = T3 ++ T2' → nMem L T2' + nMem allL T1 ≤ r.s.hi := fun T2' => by
        induction T2' with
        | nil => intro _ _; rw [nMem]; omega
        | cons s T2' ih =>
          intro T3 e
          have ih := ih (T3 ++ [s]) (by rw [e]; simp)
          rw [nMem]
          cases hsm : s.eff.isMem with
          | false => rw [Bool.false_and, cond_false]; exact ih
          | true =>
            cases hl : L s.s.i with
            | false => rw [Bool.and_false, cond_false]; exact ih
            | true =>
              rw [Bool.and_true, cond_true]
              have htr := S.tr
              rw [e, List.append_assoc, List.cons_append] at htr
              have hok := htr.split.1
              have hb := S.behind (s := s) (by rw [e]; simp) hl
              have := (pair_chain (hok.pair r (by simp)) hb (hok.isMem.1 hsm)).2.2 hk
              have hc := hok.cnt
              rw [nMem_append, hr0] at hc
              have : nMem L T2' ≤ nMem allL T2' := nMem_le T2'
              omega
      have := key T2 [] rfl
      rw [nMem_append, hr0]
      omega
    have hval := hR _ _ hk1 hk2 hat
    simp only [readAt, Option.map_eq_some_iff] at hval
    obtain ⟨⟨v', σ2⟩, hop, hv⟩ := hval
    simp only at hv
    subst hv
    refine (op_float (.inr hk) (fun y hy => ?_) (fun _ => ?_) hop).1
    · rw [S.evs_same y hy]
      cases y <;> rfl
    · obtain ⟨T3, T4, e1, e2, e3⟩ := lastM_split L σ0 (T2 ++ r :: T1)
      have htr := S.tr
      rw [e1] at htr ⊢
      have hfr := hI.fresh
      rw [e1] at hfr
      refine MemLe.trans (τ := ab L σ0 T4) (MemLe.of_mem ?_) ?_
      · rw [e3, e1]; rfl
      · rw [ab_append]
        refine ab_le e2 (fun b y h => ?_) fun t y h => ?_
        · obtain ⟨s, h1, _, h3⟩ := addH_mem h
          exact fresh_at htr e2 hfr h1 h3
        · obtain ⟨s, h1, _, h3⟩ := addX_mem h
          exact fresh_at htr e2 hfr h1 h3
end Sit
end
end E
end Go.Proofs.Ytnfehccnofhmnaa
