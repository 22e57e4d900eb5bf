/-
  An abstract machine of this place's own: a region that draws its order comes to what its one order comes to. No condition.
-/
import Derived.Test.YtnfehccnofhmnaaE23
set_option linter.all false
namespace Go.Proofs.Ytnfehccnofhmnaa
open Go.RowKit
namespace E

section
variable {P : Program} {X : Ctx} {fi : Fi} {wins : List (Nat × Nat × Nat)} {base top : Nat} {σ σ0 : St} {L L' : Nat → Bool} {r s : Rec} {T T1 T2 : List Rec}
variable {N N' nm nt : Nat} {β β' β0 : Pls} {μ μ' μ0 : Fms} {a : Act} {w w' w0 : World} {o : Oper} {v : V} {x : Value} {opsA : Array Oper} {Q : Exit → Act → World → Prop}

theorem Sit.nop_mem (S : Sit P X fi opsA.toList wins base top σ0 L T2 r T1) (he : r.eff = .nop) : (ab (with1 L r.s.i) σ0 (T2 ++ r :: T1)).mem = (ab L σ0 (T2 ++ r :: T1)).mem := by
  rw [S.ab_new, S.ab_old]
  refine ab_mem_eq ?_ fun _ _ _ => rfl
  rw [Rec.act, setE_mem, he]
  rfl

theorem Sit.nop_fin (S : Sit P X fi opsA.toList wins base top σ0 L T2 r T1) (he : r.eff = .nop) (hb : base ≤ top)
    (hI : Inv P X fi base top σ0 (T2 ++ r :: T1) β0 μ0 w0 L a w β μ)
    (hS : SRel (ab L σ0 (T2 ++ r :: T1)).h.next β' μ' fi.nt (ab L σ0 (T2 ++ r :: T1)) a w')
    (hst : Step β μ (ab L σ0 (T2 ++ r :: T1)) w β' μ' (ab L σ0 (T2 ++ r :: T1)) w') (hv : VRel β' μ' r.v x)
    (hβ : ∀ b, b < top → (b ≠ r.nm ∨ makes fi r.s.o = false) → β' b = β b) (hμ : ∀ t, r.s.o.dst ≠ some t → μ' t = μ t) :
    Inv P X fi base top σ0 (T2 ++ r :: T1) β0 μ0 w0 (with1 L r.s.i) (a.put r.s.o.dst x) w' β' μ' := by
  have hm := S.nop_mem he
  have hnx : (ab (with1 L r.s.i) σ0 (T2 ++ r :: T1)).h.next = (ab L σ0 (T2 ++ r :: T1)).h.next := congrArg (fun m : Mem => m.2.next) hm
  exact S.fin hI (by rw [hnx]; exact hS) hst rfl (MemLe.of_mem hm) hv (by rw [hnx]; exact Nat.le_refl _) hβ hμ hb (S.fresh_other hI (by rw [he]; rfl))

/-- An operation that is taken now does what it did in the one order. -/
theorem draw_step (hT : TtOk P X) (hF : FlatOk P X) (S : Sit P X fi opsA.toList wins base top σ0 L T2 r T1) (hb : base ≤ top)
    (hI : Inv P X fi base top σ0 (T2 ++ r :: T1) β0 μ0 w0 L a w β μ)
    (hR : wanted opsA.toList r.s.o r.pre = some true → okind r.s.o = .read → r.s.tight = false → RdOk P X fi (mems σ0.mem (T2 ++ r :: T1)) ⟨r.s.o, r.pre.env, r.v, r.lo, r.s.hi⟩)
    {K : Act → World → Prop} (hK : ∀ a' w' β' μ', Inv P X fi base top σ0 (T2 ++ r :: T1) β0 μ0 w0 (with1 L r.s.i) a' w' β' μ' → K a' w') : wpOp P opsA Q r.s.i K a w := by
  have hop : opsA[r.s.i]? = some r.s.o := by simpa using S.rok.hop
  unfold wpOp
  rw [hop]
  simp only
  rcases S.rok.did with ⟨hw, hv, hk⟩ | ⟨hw, hd⟩
  · rw [yield_ok hI.s (by rw [S.wanted_same]; exact hw), if_neg (by simp)]
    rcases hk with ⟨hk, he⟩ | ⟨hk, he⟩
    · exact hK _ _ β μ (S.nop_fin he hb hI hI.s (Step.refl _ _ _ _) (by rw [hv]; rfl) (fun _ _ _ => rfl) fun _ _ => rfl)
    · obtain ⟨k1, k2⟩ := S.weak hI hk
      exact hK _ _ β μ (S.chain_fin hI hk he hb k1 (Step.refl _ _ _ _) (by rw [hv]; rfl) (Nat.le_of_eq k2) (fun _ _ _ => rfl) fun _ _ => rfl)
  · rw [yield_ok hI.s (by rw [S.wanted_same]; exact hw), if_pos rfl]
    refine .inl ?_
    have hnm : makes fi r.s.o = true → r.nm < (ab L σ0 (T2 ++ r :: T1)).h.next ∧ β r.nm = none := fun hm =>
      ⟨Nat.lt_of_lt_of_le (S.rok.nmHi hm) hI.top, hI.nms r (by simp) S.nl hm⟩
    rcases hd with ⟨hc, f, args, h', hcal, hl, hA, he⟩ | ⟨hc, σ1, hop', hcase⟩
    · obtain ⟨k1, k2⟩ := S.weak hI (isCall_chain hc)
      obtain ⟨hnx, hfn, hcall⟩ := hA
      have hcal' : callee (ab L σ0 (T2 ++ r :: T1)) r.s.o = some (f, args) := by rw [callee_eq S.evs_same]; exact hcal
      obtain ⟨xs, hxs, hrun⟩ := callee_ok (P := P) hI.s hcal' hl hfn
      unfold Oper.wp
      rw [hrun, Oper.upon_enter]
      refine (hcall β w xs k1.heap hxs).mono fun e w' hee => ?_
      obtain ⟨x, β', rfl, hv, hH, hst, hold⟩ := hee
      obtain ⟨g1, g2⟩ := call_back k1 hH hst
      exact hK _ _ β' μ (S.chain_fin hI (isCall_chain hc) he hb g1 g2 (hv.ups (fun _ _ h => h) fun _ _ _ h => by cases h) (by rw [k2]; exact hnx) (fun b hb' _ => hold b (by rw [← k2]; exact Nat.lt_of_lt_of_le hb' hI.top)) fun _ _ => rfl)
    · rcases hcase with ⟨hk, he⟩ | ⟨hk, A, he, hfit, hall⟩ | ⟨hk, he⟩
      · have hmk : makes fi r.s.o = false := by
          cases h : makes fi r.s.o with
          | false => rfl
          | true => rcases makes_kind h with h | h <;> rcases hk with hk | hk <;> rw [h] at hk <;> cases hk
        have hread : ∀ nm', op P X fi nm' r.s.o (ab L σ0 (T2 ++ r :: T1)) = some (r.v, ab L σ0 (T2 ++ r :: T1)) := fun nm' => by
          rcases hk with hk | hk
          · exact (op_float (.inl hk) S.evs_same (fun h => by rw [hk] at h; cases h) hop').1
          · exact S.reading hI hk hw (hR hw hk) nm'
        obtain ⟨n, x, w', β', μ', hrun, hn, hv, hS1, hst, hnb, hμ, hnx⟩ := op_at (nm := r.nm) hT hF hI.s hnm fun nm' _ => hread nm'
        have key := hK _ _ β' μ' (S.nop_fin he hb hI hS1 hst hv (fun b _ h => hnb b h) hμ)
        unfold Oper.wp
        rw [hrun]
        rcases hn with rfl | ⟨rfl, rfl⟩ <;> exact key
      · have hfree : A.free (ab L σ0 (T2 ++ r :: T1)) := by
          cases A with
          | blk b y => trivial
          | box t cs =>
            obtain ⟨g1, g2⟩ := hI.bxs r (by simp) S.nl t hfit
            refine ⟨?_, g2⟩
            cases hz : get (ab L σ0 (T2 ++ r :: T1)).bx t with
            | none => rfl
            | some z =>
              obtain ⟨q, hq, _⟩ := hI.s.box t z hz
              rw [g1] at hq
              cases hq
        obtain ⟨n, x, w', β', μ', hrun, hn, hv, hS1, hst, hnb, hμ, hnx⟩ := op_at (nm := r.nm) hT hF hI.s hnm fun nm' h' => hall _ nm' S.evs_same hfree h'
        have hno := S.noMem2 (.inr hk)
        have hnext : (ab (with1 L r.s.i) σ0 (T2 ++ r :: T1)).h.next = (ab L σ0 (T2 ++ r :: T1)).h.next := by
          rw [S.ab_new, S.ab_old, ab_next hno, ab_next hno, Rec.act, setE_h, he]
          cases A <;> rfl
        have hmem : MemLe (ab (with1 L r.s.i) σ0 (T2 ++ r :: T1)) (A.on (ab L σ0 (T2 ++ r :: T1))) := by
          rw [S.ab_new, S.ab_old]
          refine ⟨fun t cs h => ?_, fun b y h => ?_⟩
          · rw [ab_bx hno, Rec.act, setE_bx, he] at h
            cases A with
            | blk b' y' =>
              show get (ab L (ab L σ0 T1) T2).bx t = some cs
              rw [ab_bx hno]
              exact h
            | box t' cs' =>
              show get ((t', cs') :: (ab L (ab L σ0 T1) T2).bx) t = some cs
              have h : (addX L T2 t).or (get ((t', cs') :: (ab L σ0 T1).bx) t) = some cs := h
              rw [get_cons] at h ⊢
              by_cases e : t' = t
              · subst e
                rw [if_pos rfl] at h ⊢
                cases hx : addX L T2 t' with
                | none => rw [hx] at h; exact h
                | some z =>
                  obtain ⟨s, g1, _, g3⟩ := addX_mem hx
                  obtain ⟨_, _, _, hok⟩ := S.tr.later g1
                  obtain ⟨gk, gf⟩ := hok.add g3
                  exact absurd (boxSlot_dst hfit).1 (S.slots (by simp [g1]) (S.ne2 g1) gk (boxSlot_dst gf).1)
              · rw [if_neg e] at h ⊢
                rw [ab_bx hno]
                exact h
          · rw [ab_h hno, Rec.act, setE_h, he] at h
            cases A with
            | box t' cs' =>
              show (ab L (ab L σ0 T1) T2).h.get b = some y
              rw [ab_h hno]
              exact h
            | blk b' y' =>
              show ((ab L (ab L σ0 T1) T2).h.set b' y').get b = some y
              have h : (addH L T2 b).or (((ab L σ0 T1).h.set b' y').get b) = some y := h
              rw [Heap.get_set] at h ⊢
              by_cases e : b' = b
              · subst e
                rw [if_pos rfl] at h ⊢
                cases hx : addH L T2 b' with
                | none => rw [hx] at h; exact h
                | some z =>
                  obtain ⟨s, g1, _, g3⟩ := addH_mem hx
                  obtain ⟨_, _, _, hok⟩ := S.tr.later g1
                  obtain ⟨gk, gf⟩ := hok.add g3
                  exact absurd (gf.1.symm.trans hfit.1) (S.names (by simp [g1]) (S.ne2 g1) gf.2.1 hfit.2.1)
              · rw [if_neg e] at h ⊢
                rw [ab_h hno]
                exact h
        have key := hK _ _ β' μ' (S.fin hI (by rw [hnext]; exact hS1) hst (by cases A <;> rfl) hmem hv (Nat.le_of_eq hnext.symm) (fun b _ h => hnb b h) hμ hb (S.fresh_other hI (by rw [he]; rfl)))
        unfold Oper.wp
        rw [hrun]
        rcases hn with rfl | ⟨rfl, rfl⟩ <;> exact key
      · obtain ⟨k1, k2⟩ := S.weak hI hk
        have hev : ∀ y ∈ r.s.o.op.operands.toList, ev { r.pre with env := (ab L σ0 (T2 ++ r :: T1)).env } y = ev r.pre y := fun y hy => by
          have := S.evs_same y hy
          cases y <;> exact this
        obtain ⟨hop2, henv⟩ := op_chain hk hc hev hop'
        obtain ⟨n, x, w', β', μ', hrun, hn, hv, hS1, hst, hnb, hμ, hnx⟩ := op_at (σ := { r.pre with env := (ab L σ0 (T2 ++ r :: T1)).env }) (nm := r.nm) hT hF k1 (by rw [← k2]; exact hnm) fun nm' h' => by
          rcases h' with rfl | h'
          · exact hop2
          · exact op_nm hk h' hop2
        have hnx' : σ1.h.next = r.pre.h.next := hnx
        have key := hK _ _ β' μ' (S.chain_fin hI hk he hb (by rw [hnx']; exact hS1) hst hv (by rw [hnx', k2]; exact Nat.le_refl _) (fun b _ h => hnb b h) hμ)
        unfold Oper.wp
        rw [hrun]
        rcases hn with rfl | ⟨rfl, rfl⟩ <;> exact key

/-! ### All the orders -/
def lf (listed : Array Bool) : Nat → Bool := fun j => listed.getD j false

theorem lf_set {listed : Array Bool} {i : Nat} (hi : i < listed.size) : lf (listed.setIfInBounds i true) = with1 (lf listed) i := by
  funext j
  unfold lf with1
  by_cases h : j = i
  · subst h
    simp [Array.getD_eq_getD_getElem?, hi]
  · have h' : i ≠ j := fun e => h e.symm
    simp [Array.getD_eq_getD_getElem?, h, Array.getElem?_setIfInBounds_ne h']

def cnt (L : Nat → Bool) : List Rec → Nat
  | [] => 0
  | r :: T => cond (L r.s.i) (cnt L T) (cnt L T + 1)

theorem cnt_with1 (i : Nat) : ∀ T : List Rec, cnt (with1 L i) T ≤ cnt L T
  | [] => Nat.le_refl _
  | r :: T => by
    have ih : cnt (with1 L i) T ≤ cnt L T := cnt_with1 i T
    rw [cnt, cnt]
    by_cases h : r.s.i = i
    · rw [h, with1_same, cond_true]
      cases L i <;> simp <;> omega
    · rw [with1_ne h]
      cases L r.s.i <;> simp <;> omega

theorem cnt_lt (hl : L r.s.i = false) : ∀ {T : List Rec}, r ∈ T → cnt (with1 L r.s.i) T < cnt L T
  | [], h => by cases h
  | s :: T, h => by
    have hle : cnt (with1 L r.s.i) T ≤ cnt L T := cnt_with1 _ T
    simp only [List.mem_cons] at h
    rcases h with rfl | h
    · rw [cnt, cnt, with1_same, hl, cond_true, cond_false]
      omega
    · have ih : cnt (with1 L r.s.i) T < cnt L T := cnt_lt hl h
      rw [cnt, cnt]
      by_cases h : s.s.i = r.s.i
      · rw [h, with1_same, cond_true, hl, cond_false]
        omega
      · rw [with1_ne h]
        cases L s.s.i <;> simp <;> omega

theorem first_free (L : Nat → Bool) : ∀ T : List Rec, (∀ s ∈ T, L s.s.i = true) ∨ ∃ T2 r T1, T = T2 ++ r :: T1 ∧ L r.s.i = false ∧ ∀ s ∈ T1, L s.s.i = true
  | [] => .inl (by simp)
  | s :: T => by
    rcases first_free L T with h | ⟨T2, r, T1, rfl, h1, h2⟩
    · cases hl : L s.s.i with
      | true => exact .inl (by intro x hx; simp only [List.mem_cons] at hx; rcases hx with rfl | hx; exact hl; exact h x hx)
      | false => exact .inr ⟨[], s, T, rfl, hl, h⟩
    · exact .inr ⟨s :: T2, r, T1, rfl, h1, h2⟩

theorem ancOf_has {done : List SI} : ∀ {es : List Edge} {m : Nat}, ancOf done es = some m → ∀ e ∈ es, Region.binds .any e = true → ∃ s ∈ done, s.i = e.on
  | [], _, _, e, he, _ => by cases he
  | x :: es, m, h, e, he, hb => by
    rw [ancOf] at h
    simp only [List.mem_cons] at he
    cases hbx : Region.binds .any x with
    | false =>
      rw [hbx] at h
      rcases he with rfl | he
      · rw [hbx] at hb; cases hb
      · exact ancOf_has (es := es) h e he hb
    | true =>
      rw [hbx, cond_true] at h
      split at h
      · rename_i s m' hs hm'
        rcases he with rfl | he
        · exact ⟨s, (siFind_some hs).1, (siFind_some hs).2⟩
        · exact ancOf_has (es := es) hm' e he hb
      · cases h

theorem draw_any (hT : TtOk P X) (hF : FlatOk P X) (hb : base ≤ top) (hTr : TrOk P X fi opsA.toList wins base top σ0 T) (hcov : ∀ i, i < opsA.size → ∃ r ∈ T, r.s.i = i)
    (hR : ∀ r ∈ T, wanted opsA.toList r.s.o r.pre = some true → okind r.s.o = .read → r.s.tight = false → RdOk P X fi (mems σ0.mem T) ⟨r.s.o, r.pre.env, r.v, r.lo, r.s.hi⟩)
    (hend : ∀ L a w β μ, (∀ s ∈ T, L s.s.i = true) → Inv P X fi base top σ0 T β0 μ0 w0 L a w β μ → Q .normal a w) :
    ∀ (fuel : Nat) (listed : Array Bool) (a : Act) (w : World) (β : Pls) (μ : Fms), listed.size = opsA.size → Closed (lf listed) T → cnt (lf listed) T ≤ fuel → Inv P X fi base top σ0 T β0 μ0 w0 (lf listed) a w β μ →
      wpAny P .any opsA Q fuel listed a w := by
  have hready : ∀ (listed : Array Bool) (i : Nat), i ∈ Region.ready .any opsA listed ↔ (i < opsA.size ∧ listed.getD i true = false ∧ ∃ o, opsA[i]? = some o ∧ ∀ e ∈ o.after.toList, Region.binds .any e = true → listed.getD e.on false = true) := fun listed i => by
    unfold Region.ready
    rw [List.mem_filter, List.mem_range]
    simp only [Bool.and_eq_true, Bool.not_eq_true']
    refine and_congr_right fun hi => and_congr_right fun _ => ?_
    have hs : opsA[i]? = some opsA[i] := by simp [hi]
    rw [hs]
    simp only [Option.map_some, Option.getD_some, Option.some.injEq, exists_eq_left', Array.all_eq_true_iff_forall_mem, Bool.or_eq_true, Bool.not_eq_true']
    constructor
    · intro h e he hbnd
      rcases h e (by simpa using he) with h | h
      · rw [hbnd] at h; cases h
      · exact h
    · intro h e he
      cases hbnd : Region.binds .any e with
      | false => exact .inl rfl
      | true => exact .inr (h e (by simpa using he) hbnd)
  have hgd : ∀ (listed : Array Bool) (i : Nat), i < listed.size → listed.getD i true = listed.getD i false := fun listed i hi => by
    simp [Array.getD_eq_getD_getElem?, hi]
  have hlast : ∀ (listed : Array Bool), listed.size = opsA.size → Region.ready .any opsA listed = [] → ∀ s ∈ T, lf listed s.s.i = true := fun listed hsz hnil => by
    rcases first_free (lf listed) T with h | ⟨T2, r, T1, rfl, h1, h2⟩
    · exact h
    · exfalso
      have hok := hTr.split.1
      have hop : opsA[r.s.i]? = some r.s.o := by simpa using hok.hop
      have hi : r.s.i < opsA.size := (Array.getElem?_eq_some_iff.1 hop).1
      have : r.s.i ∈ Region.ready .any opsA listed := (hready listed _).2 ⟨hi, by rw [hgd _ _ (by omega)]; exact h1, r.s.o, hop, fun e he hbnd => by
        obtain ⟨s, g1, g2⟩ := ancOf_has hok.anc e he hbnd
        obtain ⟨s', g3, rfl⟩ := List.mem_map.1 g1
        have := h2 s' g3
        rw [g2] at this
        exact this⟩
      rw [hnil] at this
      cases this
  intro fuel
  induction fuel with
  | zero =>
    intro listed a w β μ hsz hc hcnt hI
    have hall : ∀ s ∈ T, lf listed s.s.i = true := fun s hs => by
      cases hl : lf listed s.s.i with
      | true => rfl
      | false =>
        have := cnt_lt hl hs
        omega
    refine ⟨?_, hend _ a w β μ hall hI⟩
    cases hr : Region.ready .any opsA listed with
    | nil => rfl
    | cons i l =>
      exfalso
      have hm : i ∈ Region.ready .any opsA listed := by rw [hr]; simp
      obtain ⟨g1, g2, _⟩ := (hready listed i).1 hm
      obtain ⟨r, hr', rfl⟩ := hcov i g1
      have := hall r hr'
      rw [hgd _ _ (by omega)] at g2
      unfold lf at this
      rw [g2] at this
      cases this
  | succ fuel ih =>
    intro listed a w β μ hsz hc hcnt hI
    refine ⟨fun hnil => hend _ a w β μ (hlast listed hsz hnil) hI, fun i hi => ?_⟩
    obtain ⟨g1, g2, o, g3, g4⟩ := (hready listed i).1 hi
    obtain ⟨r, hr, rfl⟩ := hcov i g1
    have hl : lf listed r.s.i = false := by
      unfold lf
      rw [← hgd _ _ (by omega)]
      exact g2
    obtain ⟨T2, T1, rfl⟩ := List.append_of_mem hr
    have hop : opsA[r.s.i]? = some r.s.o := by simpa using hTr.split.1.hop
    rw [hop, Option.some.injEq] at g3
    subst g3
    have S : Sit P X fi opsA.toList wins base top σ0 (lf listed) T2 r T1 := ⟨hTr, hc, hl, g4⟩
    refine draw_step hT hF S hb hI (hR r hr) fun a' w' β' μ' hI' => ih _ a' w' β' μ' (by simpa using hsz) ?_ ?_ ?_
    · rw [lf_set (by omega)]
      intro s hs hls e he hbnd
      by_cases hsi : s.s.i = r.s.i
      · have hs' : s.s.o = r.s.o := by
          obtain ⟨_, _, _, hok⟩ := hTr.mem hs
          have h1 := hok.hop
          rw [hsi, S.rok.hop, Option.some.injEq] at h1
          exact h1.symm
        rw [hs'] at he
        have := g4 e he hbnd
        unfold with1
        split
        · rfl
        · exact this
      · rw [with1_ne hsi] at hls
        have := hc s hs hls e he hbnd
        unfold with1
        split
        · rfl
        · exact this
    · rw [lf_set (by omega)]
      have := cnt_lt hl hr
      omega
    · rw [lf_set (by omega)]
      exact hI'
end
end E
end Go.Proofs.Ytnfehccnofhmnaa
