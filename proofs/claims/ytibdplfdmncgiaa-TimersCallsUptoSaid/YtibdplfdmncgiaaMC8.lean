/-
  An abstract machine of this place's own: a region that draws its order comes to what its one order comes to. No condition.
-/
import Derived.Test.YtibdplfdmncgiaaMC7
import Derived.Laws.StructEq
set_option linter.all false
namespace Go.Proofs.Ytibdplfdmncgiaa
open Go.RowKit
namespace E

section
variable {P : Program} {X : Ctx} {fi : Fi} {wins : List (Nat × Nat × Nat)} {base top : Nat} {σ σ0 : St} {L L' : Nat → Bool} {r s : Rec} {T T1 T2 : List Rec}
variable {N N' nm nt : Nat} {β β' β0 : Pls} {μ μ' μ0 : Fms} {a : Act} {w w' w0 : World} {o : Oper} {v : V} {x : Value} {opsA : Array Oper} {Q : Exit → Act → World → Prop}

theorem Sit.nop_mem (S : Sit P X fi opsA.toList wins base top σ0 L T2 r T1) (he : r.eff = .nop) : (ab (with1 L r.s.i) σ0 (T2 ++ r :: T1)).mem = (ab L σ0 (T2 ++ r :: T1)).mem := by
  rw [S.ab_new, S.ab_old]
  refine ab_mem_eq ?_ fun _ _ _ => rfl
  rw [Rec.act, setE_mem, he]
  rfl

theorem Sit.nop_fin (S : Sit P X fi opsA.toList wins base top σ0 L T2 r T1) (he : r.eff = .nop) (hb : base ≤ top)
    (hI : Inv P X fi base top σ0 (T2 ++ r :: T1) β0 μ0 w0 L a w β μ)
    (hS : SRel (ab L σ0 (T2 ++ r :: T1)).h.next β' μ' fi.nt (ab L σ0 (T2 ++ r :: T1)) a w')
    (hst : Step β μ (ab L σ0 (T2 ++ r :: T1)) w β' μ' (ab L σ0 (T2 ++ r :: T1)) w') (hv : VRel β' μ' r.v x)
    (hβ : ∀ b, b < top → (b ≠ r.nm ∨ makes fi r.s.o = false) → β' b = β b) (hμ : ∀ t, r.s.o.dst ≠ some t → μ' t = μ t) :
    Inv P X fi base top σ0 (T2 ++ r :: T1) β0 μ0 w0 (with1 L r.s.i) (a.put r.s.o.dst x) w' β' μ' := by
  have hm := S.nop_mem he
  have hnx : (ab (with1 L r.s.i) σ0 (T2 ++ r :: T1)).h.next = (ab L σ0 (T2 ++ r :: T1)).h.next := congrArg (fun m : Mem => m.2.next) hm
  exact S.fin hI (by rw [hnx]; exact hS) hst rfl (MemLe.of_mem hm) hv (by rw [hnx]; exact Nat.le_refl _) hβ hμ hb (S.fresh_other hI (by rw [he]; rfl))

/-- An operation that is taken now does what it did in the one order. -/
theorem draw_step (hT : TtOk P X) (hF : FlatOk P X) (S : Sit P X fi opsA.toList wins base top σ0 L T2 r T1) (hb : base ≤ top)
    (hI : Inv P X fi base top σ0 (T2 ++ r :: T1) β0 μ0 w0 L a w β μ)
    (hR : wanted opsA.toList r.s.o r.pre = some true → okind r.s.o = .read → r.s.tight = false → RdOk P X fi (mems σ0.mem (T2 ++ r :: T1)) ⟨r.s.o, r.pre.env, r.v, r.lo, r.s.hi⟩)
    {K : Act → World → Prop} (hK : ∀ a' w' β' μ', Inv P X fi base top σ0 (T2 ++ r :: T1) β0 μ0 w0 (with1 L r.s.i) a' w' β' μ' → K a' w') : wpOp P opsA Q r.s.i K a w := by
  have hop : opsA[r.s.i]? = some r.s.o := by simpa using S.rok.hop
  unfold wpOp
  rw [hop]
  simp only
  rcases S.rok.did with ⟨hw, hv, hk⟩ | ⟨hw, hd⟩
  · rw [yield_ok hI.s (by rw [S.wanted_same]; exact hw), if_neg (by simp)]
    rcases hk with ⟨hk, he⟩ | ⟨hk, he⟩
    · exact hK _ _ β μ (S.nop_fin he hb hI hI.s (Step.refl _ _ _ _) (by rw [hv]; rfl) (fun _ _ _ => rfl) fun _ _ => rfl)
    · obtain ⟨k1, k2⟩ := S.weak hI hk
      exact hK _ _ β μ (S.chain_fin hI hk he hb k1 (Step.refl _ _ _ _) (by rw [hv]; rfl) (Nat.le_of_eq k2) (fun _ _ _ => rfl) fun _ _ => rfl)
  · rw [yield_ok hI.s (by rw [S.wanted_same]; exact hw), if_pos rfl]
    refine .inl ?_
    have hnm : makes fi r.s.o = true → r.nm < (ab L σ0 (T2 ++ r :: T1)).h.next ∧ β r.nm = none := fun hm =>
      ⟨Nat.lt_of_lt_of_le (S.rok.nmHi hm) hI.top, hI.nms r (by simp) S.nl hm⟩
    rcases hd with ⟨hc, f, args, h', hcal, hl, hA, he⟩ | ⟨hc, σ1, hop', hcase⟩
    · obtain ⟨k1, k2⟩ := S.weak hI (isCall_chain hc)
      obtain ⟨hnx, hfn, hcall⟩ := hA
      have hcal' : callee (ab L σ0 (T2 ++ r :: T1)) r.s.o = some (f, args) := by rw [callee_eq S.evs_same]; exact hcal
      obtain ⟨xs, hxs, hrun⟩ := callee_ok (P := P) hI.s hcal' hl hfn
      unfold Oper.wp
      rw [hrun, Oper.upon_enter]
      refine (hcall β w xs k1.heap hxs).mono fun e w' hee => ?_
      obtain ⟨x, β', rfl, hv, hH, hst, hold⟩ := hee
      obtain ⟨g1, g2⟩ := call_back k1 hH hst
      exact hK _ _ β' μ (S.chain_fin hI (isCall_chain hc) he hb g1 g2 (hv.ups (fun _ _ h => h) fun _ _ _ h => by cases h) (by rw [k2]; exact hnx) (fun b hb' _ => hold b (by rw [← k2]; exact Nat.lt_of_lt_of_le hb' hI.top)) fun _ _ => rfl)
    · rcases hcase with ⟨hk, he⟩ | ⟨hk, A, he, hfit, hall⟩ | ⟨hk, he⟩
      · have hmk : makes fi r.s.o = false := by
          cases h : makes fi r.s.o with
          | false => rfl
          | true => rcases makes_kind h with h | h <;> rcases hk with hk | hk <;> rw [h] at hk <;> cases hk
        have hread : ∀ nm', op P X fi nm' r.s.o (ab L σ0 (T2 ++ r :: T1)) = some (r.v, ab L σ0 (T2 ++ r :: T1)) := fun nm' => by
          rcases hk with hk | hk
          · exact (op_float (.inl hk) S.evs_same (fun h => by rw [hk] at h; cases h) hop').1
          · exact S.reading hI hk hw (hR hw hk) nm'
        obtain ⟨n, x, w', β', μ', hrun, hn, hv, hS1, hst, hnb, hμ, hnx⟩ := op_at (nm := r.nm) hT hF hI.s hnm fun nm' _ => hread nm'
        have key := hK _ _ β' μ' (S.nop_fin he hb hI hS1 hst hv (fun b _ h => hnb b h) hμ)
        unfold Oper.wp
        rw [hrun]
        rcases hn with rfl | ⟨rfl, rfl⟩ <;> exact key
      · have hfree : A.free (ab L σ0 (T2 ++ r :: T1)) := by
          cases A with
          | blk b y => trivial
          | box t cs =>
            obtain ⟨g1, g2⟩ := hI.bxs r (by simp) S.nl t hfit
            refine ⟨?_, g2⟩
            cases hz : get (ab L σ0 (T2 ++ r :: T1)).bx t with
            | none => rfl
            | some z =>
              obtain ⟨q, hq, _⟩ := hI.s.box t z hz
              rw [g1] at hq
              cases hq
        obtain ⟨n, x, w', β', μ', hrun, hn, hv, hS1, hst, hnb, hμ, hnx⟩ := op_at (nm := r.nm) hT hF hI.s hnm fun nm' h' => hall _ nm' S.evs_same hfree h'
        have hno := S.noMem2 (.inr hk)
        have hnext : (ab (with1 L r.s.i) σ0 (T2 ++ r :: T1)).h.next = (ab L σ0 (T2 ++ r :: T1)).h.next := by
          rw [S.ab_new, S.ab_old, ab_next hno, ab_next hno, Rec.act, setE_h, he]
          cases A <;> rfl
        have hmem : MemLe (ab (with1 L r.s.i) σ0 (T2 ++ r :: T1)) (A.on (ab L σ0 (T2 ++ r :: T1))) := by
          rw [S.ab_new, S.ab_old]
          refine ⟨fun t cs h => ?_, fun b y h => ?_⟩
          · rw [ab_bx hno, Rec.act, setE_bx, he] at h
            cases A with
            | blk b' y' =>
              show get (ab L (ab L σ0 T1) T2).bx t = some cs
              rw [ab_bx hno]
              exact h
            | box t' cs' =>
              show get ((t', cs') :: (ab L (ab L σ0 T1) T2).bx) t = some cs
              have h : (addX L T2 t).or (get ((t', cs') :: (ab L σ0 T1).bx) t) = some cs := h
              rw [get_cons] at h ⊢
              by_cases e : t' = t
              · subst e
                rw [if_pos rfl] at h ⊢
                cases hx : addX L T2 t' with
                | none => rw [hx] at h; exact h
                | some z =>
                  obtain ⟨s, g1, _, g3⟩ := addX_mem hx
                  obtain ⟨_, _, _, hok⟩ := S.tr.later g1
                  obtain ⟨gk, gf⟩ := hok.add g3
                  exact absurd (boxSlot_dst hfit).1 (S.slots (by simp [g1]) (S.ne2 g1) gk (boxSlot_dst gf).1)
              · rw [if_neg e] at h ⊢
                rw [ab_bx hno]
                exact h
          · rw [ab_h hno, Rec.act, setE_h, he] at h
            cases A with
            | box t' cs' =>
              show (ab L (ab L σ0 T1) T2).h.get b = some y
              rw [ab_h hno]
              exact h
            | blk b' y' =>
              show ((ab L (ab L σ0 T1) T2).h.set b' y').get b = some y
              have h : (addH L T2 b).or (((ab L σ0 T1).h.set b' y').get b) = some y := h
              rw [Heap.get_set] at h ⊢
              by_cases e : b' = b
              · subst e
                rw [if_pos rfl] at h ⊢
                cases hx : addH L T2 b' with
                | none => rw [hx] at h; exact h
                | some z =>
                  obtain ⟨s, g1, _, g3⟩ := addH_mem hx
                  obtain ⟨_, _, _, hok⟩ := S.tr.later g1
                  obtain ⟨gk, gf⟩ := hok.add g3
                  exact absurd (gf.1.symm.trans hfit.1) (S.names (by simp [g1]) (S.ne2 g1) gf.2.1 hfit.2.1)
              · rw [if_neg e] at h ⊢
                rw [ab_h hno]
                exact h
        have key := hK _ _ β' μ' (S.fin hI (by rw [hnext]; exact hS1) hst (by cases A <;> rfl) hmem hv (Nat.le_of_eq hnext.symm) (fun b _ h => hnb b h) hμ hb (S.fresh_other hI (by rw [he]; rfl)))
        unfold Oper.wp
        rw [hrun]
        rcases hn with rfl | ⟨rfl, rfl⟩ <;> exact key
      · obtain ⟨k1, k2⟩ := S.weak hI hk
        have hev : ∀ y ∈ r.s.o.op.operands.toList, ev { r.pre with env := (ab L σ0 (T2 ++ r :: T1)).env } y = ev r.pre y := fun y hy => by
          have := S.evs_same y hy
          cases y <;> exact this
        obtain ⟨hop2, henv⟩ := op_chain hk hc hev hop'
        obtain ⟨n, x, w', β', μ', hrun, hn, hv, hS1, hst, hnb, hμ, hnx⟩ := op_at (σ := { r.pre with env := (ab L σ0 (T2 ++ r :: T1)).env }) (nm := r.nm) hT hF k1 (by rw [← k2]; exact hnm) fun nm' h' => by
          rcases h' with rfl | h'
          · exact hop2
          · exact op_nm hk h' hop2
        have hnx' : σ1.h.next = r.pre.h.next := hnx
        have key := hK _ _ β' μ' (S.chain_fin hI hk he hb (by rw [hnx']; exact hS1) hst hv (by rw [hnx', k2]; exact Nat.le_refl _) (fun b _ h => hnb b h) hμ)
        unfold Oper.wp
        rw [hrun]
        rcases hn with rfl | ⟨rfl, rfl⟩ <;> exact key

/-! ### All the orders -/
def lf (listed : Array Bool) : Nat → Bool := fun j => listed.getD j false

theorem lf_set {listed : Array Bool} {i : Nat} (hi : i < listed.size) : lf (listed.setIfInBounds i true) = with1 (lf listed) i := by
  funext j
  unfold lf with1
  by_cases h : j = i
  · subst h
    simp [Array.getD_eq_getD_getElem?, hi]
  · have h' : i ≠ j := fun e => h e.symm
    simp [Array.getD_eq_getD_getElem?, h, Array.getElem?_setIfInBounds_ne h']

def cnt (L : Nat → Bool) : List Rec → Nat
  | [] => 0
  | r :: T => cond (L r.s.i) (cnt L T) (cnt L T + 1)

theorem cnt_with1 (i : Nat) : ∀ T : List Rec, cnt (with1 L i) T ≤ cnt L T
  | [] => Nat.le_refl _
  | r :: T => by
    have ih : cnt (with1 L i) T ≤ cnt L T := cnt_with1 i T
    rw [cnt, cnt]
    by_cases h : r.s.i = i
    · rw [h, with1_same, cond_true]
      cases L i <;> simp <;> omega
    · rw [with1_ne h]
      cases L r.s.i <;> simp <;> omega

theorem cnt_lt (hl : L r.s.i = false) : ∀ {T : List Rec}, r ∈ T → cnt (with1 L r.s.i) T < cnt L T
  | [], h => by cases h
  | s :: T, h => by
    have hle : cnt (with1 L r.s.i) T ≤ cnt L T := cnt_with1 _ T
    simp only [List.mem_cons] at h
    rcases h with rfl | h
    · rw [cnt, cnt, with1_same, hl, cond_true, cond_false]
      omega
    · have ih : cnt (with1 L r.s.i) T < cnt L T := cnt_lt hl h
      rw [cnt, cnt]
      by_cases h : s.s.i = r.s.i
      · rw [h, with1_same, cond_true, hl, cond_false]
        omega
      · rw [with1_ne h]
        cases L s.s.i <;> simp <;> omega

theorem first_free (L : Nat → Bool) : ∀ T : List Rec, (∀ s ∈ T, L s.s.i = true) ∨ ∃ T2 r T1, T = T2 ++ r :: T1 ∧ L r.s.i = false ∧ ∀ s ∈ T1, L s.s.i = true
  | [] => .inl (by simp)
  | s :: T => by
    rcases first_free L T with h | ⟨T2, r, T1, rfl, h1, h2⟩
    · cases hl : L s.s.i with
      | true => exact .inl (by intro x hx; simp only [List.mem_cons] at hx; rcases hx with rfl | hx; exact hl; exact h x hx)
      | false => exact .inr ⟨[], s, T, rfl, hl, h⟩
    · exact .inr ⟨s :: T2, r, T1, rfl, h1, h2⟩

theorem ancOf_has {done : List SI} : ∀ {es : List Edge} {m : Nat}, ancOf done es = some m → ∀ e ∈ es, Region.binds .any e = true → ∃ s ∈ done, s.i = e.on
  | [], _, _, e, he, _ => by cases he
  | x :: es, m, h, e, he, hb => by
    rw [ancOf] at h
    simp only [List.mem_cons] at he
    cases hbx : Region.binds .any x with
    | false =>
      rw [hbx] at h
      rcases he with rfl | he
      · rw [hbx] at hb; cases hb
      · exact ancOf_has (es := es) h e he hb
    | true =>
      rw [hbx, cond_true] at h
      split at h
      · rename_i s m' hs hm'
        rcases he with rfl | he
        · exact ⟨s, (siFind_some hs).1, (siFind_some hs).2⟩
        · exact ancOf_has (es := es) hm' e he hb
      · cases h

theorem draw_any (hT : TtOk P X) (hF : FlatOk P X) (hb : base ≤ top) (hTr : TrOk P X fi opsA.toList wins base top σ0 T) (hcov : ∀ i, i < opsA.size → ∃ r ∈ T, r.s.i = i)
    (hR : ∀ r ∈ T, wanted opsA.toList r.s.o r.pre = some true → okind r.s.o = .read → r.s.tight = false → RdOk P X fi (mems σ0.mem T) ⟨r.s.o, r.pre.env, r.v, r.lo, r.s.hi⟩)
    (hend : ∀ L a w β μ, (∀ s ∈ T, L s.s.i = true) → Inv P X fi base top σ0 T β0 μ0 w0 L a w β μ → Q .normal a w) :
    ∀ (fuel : Nat) (listed : Array Bool) (a : Act) (w : World) (β : Pls) (μ : Fms), listed.size = opsA.size → Closed (lf listed) T → cnt (lf listed) T ≤ fuel → Inv P X fi base top σ0 T β0 μ0 w0 (lf listed) a w β μ →
      wpAny P .any opsA Q fuel listed a w := by
  have hready : ∀ (listed : Array Bool) (i : Nat), i ∈ Region.ready .any opsA listed ↔ (i < opsA.size ∧ listed.getD i true = false ∧ ∃ o, opsA[i]? = some o ∧ ∀ e ∈ o.after.toList, Region.binds .any e = true → listed.getD e.on false = true) := fun listed i => by
    unfold Region.ready
    rw [List.mem_filter, List.mem_range]
    simp only [Bool.and_eq_true, Bool.not_eq_true']
    refine and_congr_right fun hi => and_congr_right fun _ => ?_
    have hs : opsA[i]? = some opsA[i] := by simp [hi]
    rw [hs]
    simp only [Option.map_some, Option.getD_some, Option.some.injEq, exists_eq_left', Array.all_eq_true_iff_forall_mem, Bool.or_eq_true, Bool.not_eq_true']
    constructor
    · intro h e he hbnd
      rcases h e (by simpa using he) with h | h
      · rw [hbnd] at h; cases h
      · exact h
    · intro h e he
      cases hbnd : Region.binds .any e with
      | false => exact .inl rfl
      | true => exact .inr (h e (by simpa using he) hbnd)
  have hgd : ∀ (listed : Array Bool) (i : Nat), i < listed.size → listed.getD i true = listed.getD i false := fun listed i hi => by
    simp [Array.getD_eq_getD_getElem?, hi]
  have hlast : ∀ (listed : Array Bool), listed.size = opsA.size → Region.ready .any opsA listed = [] → ∀ s ∈ T, lf listed s.s.i = true := fun listed hsz hnil => by
    rcases first_free (lf listed) T with h | ⟨T2, r, T1, rfl, h1, h2⟩
    · exact h
    · exfalso
      have hok := hTr.split.1
      have hop : opsA[r.s.i]? = some r.s.o := by simpa using hok.hop
      have hi : r.s.i < opsA.size := (Array.getElem?_eq_some_iff.1 hop).1
      have : r.s.i ∈ Region.ready .any opsA listed := (hready listed _).2 ⟨hi, by rw [hgd _ _ (by omega)]; exact h1, r.s.o, hop, fun e he hbnd => by
        obtain ⟨s, g1, g2⟩ := ancOf_has hok.anc e he hbnd
        obtain ⟨s', g3, rfl⟩ := List.mem_map.1 g1
        have := h2 s' g3
        rw [g2] at this
        exact this⟩
      rw [hnil] at this
      cases this
  intro fuel
  induction fuel with
  | zero =>
    intro listed a w β μ hsz hc hcnt hI
    have hall : ∀ s ∈ T, lf listed s.s.i = true := fun s hs => by
      cases hl : lf listed s.s.i with
      | true => rfl
      | false =>
        have := cnt_lt hl hs
        omega
    refine ⟨?_, hend _ a w β μ hall hI⟩
    cases hr : Region.ready .any opsA listed with
    | nil => rfl
    | cons i l =>
      exfalso
      have hm : i ∈ Region.ready .any opsA listed := by rw [hr]; simp
      obtain ⟨g1, g2, _⟩ := (hready listed i).1 hm
      obtain ⟨r, hr', rfl⟩ := hcov i g1
      have := hall r hr'
      rw [hgd _ _ (by omega)] at g2
      unfold lf at this
      rw [g2] at this
      cases this
  | succ fuel ih =>
    intro listed a w β μ hsz hc hcnt hI
    refine ⟨fun hnil => hend _ a w β μ (hlast listed hsz hnil) hI, fun i hi => ?_⟩
    obtain ⟨g1, g2, o, g3, g4⟩ := (hready listed i).1 hi
    obtain ⟨r, hr, rfl⟩ := hcov i g1
    have hl : lf listed r.s.i = false := by
      unfold lf
      rw [← hgd _ _ (by omega)]
      exact g2
    obtain ⟨T2, T1, rfl⟩ := List.append_of_mem hr
    have hop : opsA[r.s.i]? = some r.s.o := by simpa using hTr.split.1.hop
    rw [hop, Option.some.injEq] at g3
    subst g3
    have S : Sit P X fi opsA.toList wins base top σ0 (lf listed) T2 r T1 := ⟨hTr, hc, hl, g4⟩
    refine draw_step hT hF S hb hI (hR r hr) fun a' w' β' μ' hI' => ih _ a' w' β' μ' (by simpa using hsz) ?_ ?_ ?_
    · rw [lf_set (by omega)]
      intro s hs hls e he hbnd
      by_cases hsi : s.s.i = r.s.i
      · have hs' : s.s.o = r.s.o := by
          obtain ⟨_, _, _, hok⟩ := hTr.mem hs
          have h1 := hok.hop
          rw [hsi, S.rok.hop, Option.some.injEq] at h1
          exact h1.symm
        rw [hs'] at he
        have := g4 e he hbnd
        unfold with1
        split
        · rfl
        · exact this
      · rw [with1_ne hsi] at hls
        have := hc s hs hls e he hbnd
        unfold with1
        split
        · rfl
        · exact this
    · rw [lf_set (by omega)]
      have := cnt_lt hl hr
      omega
    · rw [lf_set (by omega)]
      exact hI'
end
end E
end Go.Proofs.Ytibdplfdmncgiaa

/-
  An abstract machine of this place's own: a region that draws its order. No condition.
-/
namespace Go.Proofs.Ytibdplfdmncgiaa
open Go.RowKit
namespace E

section
variable {P : Program} {X : Ctx} {fi : Fi}

theorem lastM_none {L : Nat → Bool} (h : ∀ j, L j = false) {m : Mem} : ∀ {T : List Rec}, lastM L m T = m
  | [] => rfl
  | r :: T => by
    have ih : lastM L m T = m := lastM_none h
    rw [lastM]
    cases r.eff with
    | mem bx h' => simp only [h, cond_false, ih]
    | _ => exact ih

theorem ab_none {L : Nat → Bool} (h : ∀ j, L j = false) {σ : St} : ∀ {T : List Rec}, ab L σ T = σ
  | [] => rfl
  | r :: T => by
    have ih : ab L σ T = σ := ab_none h
    rw [ab, h, cond_false, ih]

theorem cnt_le {L : Nat → Bool} : ∀ {T : List Rec}, cnt L T ≤ T.length
  | [] => Nat.le_refl _
  | r :: T => by
    have ih : cnt L T ≤ T.length := cnt_le
    rw [cnt, List.length_cons]
    cases L r.s.i <;> simp <;> omega

open Classical in
theorem drawOk (hT : TtOk P X) (hF : FlatOk P X) (hm : P.follows .mixedOrders = true) (wins : List (Nat × Win)) : DrawOk P fi (wpDraw P X fi wins) := by
  intro id ops σ K β μ a w Q hD hS hQ
  obtain ⟨hreg, hst, hw⟩ := hD
  simp only [regOk, Bool.and_eq_true, Nat.ble_eq] at hreg
  obtain ⟨⟨hall, hlen⟩, hgo⟩ := hreg
  refine wp_region_any hm ?_
  generalize hord : ordOf (get wins id) ops.toList.length = ord at hw hall hgo hlen
  generalize hws : winsOf (get wins id) = ws at hw hgo
  generalize htop : σ.h.next + countMk fi ops.toList ord = top at hw
  have hbt : σ.h.next ≤ top := by omega
  generalize hσ0 : ({ σ with h := { σ.h with next := top } } : St) = σ0 at hw
  have hσm : ((σ.bx, { σ.h with next := top }) : Mem) = σ0.mem := by rw [← hσ0]; rfl
  rw [hσm] at hw
  have hg0 : ∀ b, σ0.h.get b = σ.h.get b := fun b => by rw [← hσ0]; rfl
  have hx0 : σ0.bx = σ.bx := by rw [← hσ0]
  have he0 : σ0.env = σ.env := by rw [← hσ0]
  have hn0 : σ0.h.next = top := by rw [← hσ0]
  obtain ⟨T, hTr, hTi, hK, hR⟩ := drawL_trace (σ0 := σ0) (base := σ.h.next) (top := top) K ord σ.h.next [σ0.mem] [] σ0 [] hw hgo trivial rfl rfl (fun _ h => by cases h) (Nat.le_refl _) htop (fun _ h => by cases h)
  have hcov : ∀ i, i < ops.size → ∃ r ∈ T, r.s.i = i := fun i hi => by
    have : i ∈ ord := memN_iff.1 (List.all_eq_true.1 hall i (List.mem_range.2 (by simpa using hi)))
    have : i ∈ T.map (·.s.i) := by rw [hTi]; simpa using this
    obtain ⟨r, h1, h2⟩ := List.mem_map.1 this
    exact ⟨r, h1, h2⟩
  have hTl : T.length ≤ ops.size := by
    have := congrArg List.length hTi
    simp at this
    simp at hlen
    omega
  -- the slots of the variables that the region makes
  have hslot : ∀ r ∈ T, ∀ t, boxSlot fi r.s.o = some t → get σ.bx t = none ∧ (σ.env.any fun p => mentionsV t p.2) = false := fun r hr t ht => by
    obtain ⟨_, _, _, hok⟩ := hTr.mem hr
    have hmem : r.s.o ∈ ops.toList := List.mem_of_getElem? hok.hop
    have := List.all_eq_true.1 hst r.s.o hmem
    rw [ht] at this
    simp only [Bool.and_eq_true, Option.isNone_iff_eq_none, Bool.not_eq_true'] at this
    exact this
  let μ1 : Fms := fun t => if ∃ r ∈ T, boxSlot fi r.s.o = some t then none else μ t
  have hμ1 : ∀ t, (∀ r ∈ T, boxSlot fi r.s.o ≠ some t) → μ1 t = μ t := fun t h => if_neg (fun ⟨r, h1, h2⟩ => h r h1 h2)
  have hμb : ∀ t cs, get σ.bx t = some cs → μ1 t = μ t := fun t cs h => hμ1 t fun r hr ht => by
    rw [(hslot r hr t ht).1] at h; cases h
  have hfresh : ∀ b, σ.h.next ≤ b → σ.h.get b = none := fun b hb => by
    cases h : σ.h.get b with
    | none => rfl
    | some x =>
      obtain ⟨p, hp, _⟩ := hS.heap.blk b x h
      rw [hS.heap.fresh b hb] at hp
      cases hp
  have hS1 : SRel top β μ1 fi.nt σ0 a { w with drawn := w.drawn + 1 } := {
    heap := ⟨fun b hb => hS.heap.fresh b (Nat.le_trans hbt hb), fun b x h => hS.heap.blk b x (by rw [← hg0]; exact h), fun b b' x x' p p' h0 h1 h2 => hS.heap.apart b b' x x' p p' h0 (by rw [← hg0]; exact h1) (by rw [← hg0]; exact h2)⟩
    size := hS.size
    defers := hS.defers
    env := fun t v h => by
      rw [he0] at h
      obtain ⟨x, h1, h2⟩ := hS.env t v h
      refine ⟨x, h1, h2.ups (fun _ _ h => h) fun u r hu hr => ?_⟩
      rw [hμ1 u fun r' hr' ht => ?_]
      · exact hr
      · have := mentionsV_env (hslot r' hr' u ht).2 t v h
        rw [hu] at this
        cases this
    box := fun t cs h => by
      rw [hx0] at h
      obtain ⟨r, h1, h2⟩ := hS.box t cs h
      exact ⟨r, by rw [hμb t cs h]; exact h1, h2⟩
    bxap := fun t t' cs cs' r h0 h1 h2 h3 => by
      rw [hx0] at h1 h2
      rw [hμb t' cs' h2]
      rw [hμb t cs h1] at h3
      exact hS.bxap t t' cs cs' r h0 h1 h2 h3
    hap := fun t cs b x p h1 h2 h3 => by
      rw [hx0] at h1
      rw [hμb t cs h1]
      exact hS.hap t cs b x p h1 (by rw [← hg0]; exact h2) h3 }
  have hst0 : Step β μ σ w β μ σ0 w := {
    ext := fun _ _ h => h
    os := rfl
    tape := rfl
    output := rfl
    size := Nat.le_refl _
    fr := fun _ _ _ => rfl
    own := fun r h => .inl (by
      rcases h with ⟨b, x, p, e1, e2⟩ | ⟨t, cs, e1, e2⟩
      · exact .inl ⟨b, x, p, by rw [← hg0]; exact e1, e2⟩
      · rw [hx0] at e1
        exact .inr ⟨t, cs, e1, e2⟩)
    blks := fun b x p h1 h2 => .inl ⟨b, x, p, by rw [← hg0]; exact h1, h2, rfl⟩ }
  have hst1 : Step β μ σ0 w β μ1 σ0 { w with drawn := w.drawn + 1 } := {
    ext := fun _ _ h => h
    os := rfl
    tape := rfl
    output := rfl
    size := Nat.le_refl _
    fr := fun _ _ _ => rfl
    own := fun r h => .inl (by
      rcases h with ⟨b, x, p, e1, e2⟩ | ⟨t, cs, e1, e2⟩
      · exact .inl ⟨b, x, p, e1, e2⟩
      · exact .inr ⟨t, cs, e1, by rw [← hμb t cs (by rw [← hx0]; exact e1)]; exact e2⟩)
    blks := fun b x p h1 h2 => .inl ⟨b, x, p, h1, h2, rfl⟩ }
  have hlf : ∀ j, lf (Array.replicate ops.size false) j = false := fun j => by
    unfold lf
    rw [Array.getD_eq_getD_getElem?]
    by_cases h : j < ops.size <;> simp [h]
  have hI : Inv P X fi σ.h.next top σ0 T β μ w (lf (Array.replicate ops.size false)) a { w with drawn := w.drawn + 1 } β μ1 := by
    refine ⟨?_, ?_, fun _ _ => rfl, ?_, fun r hr _ hmk => ?_, fun r hr _ t ht => ?_, fun T2 r T1 he _ A hA => ?_⟩
    · rw [ab_none hlf, hn0]; exact hS1
    · rw [ab_none hlf]; exact hst1
    · rw [ab_none hlf, hn0]; exact Nat.le_refl _
    · obtain ⟨_, _, _, hok⟩ := hTr.mem hr
      exact hS.heap.fresh _ hok.nmLo
    · rw [ab_none hlf, he0]
      exact ⟨if_pos ⟨r, hr, ht⟩, (hslot r hr t ht).2⟩
    · rw [lastM_none hlf]
      have hr : r ∈ T := by rw [he]; simp
      obtain ⟨_, _, _, hok⟩ := hTr.mem hr
      obtain ⟨_, hf⟩ := hok.add hA
      cases A with
      | box t cs =>
        show get σ0.bx t = none
        rw [hx0]
        exact (hslot r hr t hf).1
      | blk b x =>
        show σ0.h.get b = none
        rw [hg0, hf.1]
        exact hfresh _ hok.nmLo
  refine draw_any hT hF hbt hTr hcov hR (fun L a' w' β' μ' hL hI' => ?_) ops.size _ a _ β μ1 (by simp) (fun s _ hs => by rw [hlf] at hs; cases hs) (Nat.le_trans cnt_le hTl) hI
  have hab : ab L σ0 T = ab allL σ0 T := ab_congr fun s hs => hL s hs
  have hs' := hI'.s
  have hst' := hI'.st
  have htop' := hI'.top
  rw [hab] at hs' hst' htop'
  exact hQ _ β' μ' a' w' hK hs' (hst0.trans hst') (Nat.le_trans hbt htop') hI'.old
end
end E
end Go.Proofs.Ytibdplfdmncgiaa

/-
  An abstract machine of this place's own: what a run that computes says. No condition.
-/
namespace Go.Proofs.Ytibdplfdmncgiaa
open Go.RowKit
namespace E

theorem strEq_same {a b : ByteArray} (h : strEq a b = true) : a = b := by
  have h : (a.data.toList == b.data.toList) = true := h
  have := eq_of_beq h
  exact ByteArray.ext (Array.toList_inj.1 this)

theorem C.beq_eq {x y : C} (h : C.beq x y = true) : x = y := by
  unfold C.beq at h
  split at h <;> (try simp only [Bool.and_eq_true, decide_eq_true_eq, beq_iff_eq, Bool.false_eq_true] at h)
  · obtain ⟨rfl, rfl⟩ := h; rfl
  · subst h; rfl
  · rw [strEq_same h]
  · rfl
  · rfl
  · rfl
  · rfl
  · obtain ⟨h1, h2⟩ := h
    rw [Nat.eq_of_beq_eq_true h1, Nat.eq_of_beq_eq_true h2]
  · obtain ⟨h1, h2⟩ := h
    rw [Nat.eq_of_beq_eq_true h1, Nat.eq_of_beq_eq_true h2]
  · obtain ⟨⟨⟨h1, h2⟩, h3⟩, h4⟩ := h
    rw [Nat.eq_of_beq_eq_true h1, Nat.eq_of_beq_eq_true h2, Nat.eq_of_beq_eq_true h3, Nat.eq_of_beq_eq_true h4]
  · rw [Nat.eq_of_beq_eq_true h]
  · rw [Nat.eq_of_beq_eq_true h]

theorem cellsBeq_eq : ∀ {xs ys : List C}, cellsBeq xs ys = true → xs = ys
  | [], [], _ => rfl
  | x :: xs, y :: ys, h => by
    simp only [cellsBeq, Bool.and_eq_true] at h
    rw [C.beq_eq h.1, cellsBeq_eq h.2]
  | [], _ :: _, h => by cases h
  | _ :: _, [], h => by cases h

theorem V.beq_eq {x y : V} (h : V.beq x y = true) : x = y := by
  unfold V.beq at h
  split at h
  · rw [C.beq_eq h]
  · rw [cellsBeq_eq h]
  · cases h

section
variable {P : Program} {X : Ctx} {fi : Fi} {Γ : FuncId → List V → Heap → Option (V × Heap)} {wins : List (Nat × Win)} {σ σ' : St}

theorem rdOkB_ok {B : List Mem} {r : Rd} (h : rdOkB P X fi B r = true) : RdOk P X fi B r := fun k m h1 h2 h3 => by
  have hm : m ∈ (B.reverse.take (r.hi + 1)).drop r.lo := by
    refine List.mem_of_getElem? (i := k - r.lo) ?_
    rw [List.getElem?_drop, List.getElem?_take]
    rw [show r.lo + (k - r.lo) = k by omega, if_pos (by omega)]
    exact h3
  have := List.all_eq_true.1 h m hm
  split at this
  · rename_i v hv
    rw [hv, V.beq_eq this]
  · cases this

/-- What the machine says of calls is so. -/
def GOk (P : Program) (Γ : FuncId → List V → Heap → Option (V × Heap)) : Prop := ∀ f args h v h', Γ f args h = some (v, h') → ACall P f args h v h'

theorem runOps_ok (hG : GOk P Γ) {ops : List Oper} {K : St → Prop} : ∀ (l : List Oper) (σ : St), runOps P X fi Γ ops l σ = some σ' → K σ' → wpOpsE P X fi ops l σ K
  | [], σ, h, hK => by
    simp only [runOps, Option.some.injEq] at h
    subst h
    exact hK
  | o :: l, σ, h, hK => by
    simp only [runOps] at h
    simp only [wpOpsE]
    cases hw : wanted ops o σ with
    | none => rw [hw] at h; cases h
    | some b =>
      rw [hw] at h
      cases b with
      | false =>
        simp only at h ⊢
        cases hp : put fi o.dst undefC σ with
        | none => rw [hp] at h; cases h
        | some σ1 => rw [hp] at h; exact ⟨σ1, rfl, runOps_ok hG l σ1 h hK⟩
      | true =>
        simp only at h ⊢
        cases hc : isCall o with
        | true =>
          rw [hc, cond_true] at h
          rw [if_pos rfl]
          cases hcal : callee σ o with
          | none => rw [hcal] at h; cases h
          | some p =>
            obtain ⟨f, args⟩ := p
            rw [hcal] at h
            simp only at h
            cases hl : args.all V.loose with
            | false => rw [hl] at h; cases h
            | true =>
              rw [hl, cond_true] at h
              cases hg : Γ f args σ.h with
              | none => rw [hg] at h; cases h
              | some q =>
                obtain ⟨v, h'⟩ := q
                rw [hg] at h
                simp only at h
                cases hp : put fi o.dst v { σ with h := h' } with
                | none => rw [hp] at h; cases h
                | some σ1 =>
                  rw [hp] at h
                  exact ⟨f, args, v, h', σ1, rfl, hl, hG _ _ _ _ _ hg, hp, runOps_ok hG l σ1 h hK⟩
        | false =>
          rw [hc, cond_false] at h
          rw [if_neg (by simp)]
          cases hop : op P X fi σ.h.next o σ with
          | none => rw [hop] at h; cases h
          | some q =>
            obtain ⟨v, σ1⟩ := q
            rw [hop] at h
            simp only at h
            cases hp : put fi o.dst v { σ1 with h := bump fi o σ1.h } with
            | none => rw [hp] at h; cases h
            | some σ2 =>
              rw [hp] at h
              exact ⟨v, σ1, σ2, rfl, hp, runOps_ok hG l σ2 h hK⟩

theorem runDrawL_ok (hG : GOk P Γ) {ops : List Oper} {ws : List (Nat × Nat × Nat)} {K : St → Prop} : ∀ (l : List Nat) (nm : Nat) (B : List Mem) (R : List Rd) (σ : St), runDrawL P X fi Γ ops ws l nm B R σ = some σ' → K σ' → wpDrawL P X fi ops ws l nm B R σ K
  | [], nm, B, R, σ, h, hK => by
    simp only [runDrawL] at h
    cases hr : R.all (rdOkB P X fi B) with
    | false => rw [hr] at h; cases h
    | true =>
      rw [hr, cond_true, Option.some.injEq] at h
      subst h
      exact ⟨fun r hr' => rdOkB_ok (List.all_eq_true.1 hr r hr'), hK⟩
  | i :: l, nm, B, R, σ, h, hK => by
    simp only [runDrawL] at h
    simp only [wpDrawL]
    cases ho : ops[i]? with
    | none => rw [ho] at h; cases h
    | some o =>
      rw [ho] at h
      simp only at h ⊢
      cases hw : wanted ops o σ with
      | none => rw [hw] at h; cases h
      | some b =>
        rw [hw] at h
        cases b with
        | false =>
          simp only at h ⊢
          cases hp : put fi o.dst undefC σ with
          | none => rw [hp] at h; cases h
          | some σ1 => rw [hp] at h; exact ⟨σ1, rfl, runDrawL_ok hG l _ _ _ σ1 h hK⟩
        | true =>
          simp only at h ⊢
          cases hc : isCall o with
          | true =>
            rw [hc, cond_true] at h
            rw [if_pos rfl]
            cases hcal : callee σ o with
            | none => rw [hcal] at h; cases h
            | some p =>
              obtain ⟨f, args⟩ := p
              rw [hcal] at h
              simp only at h
              cases hl : args.all V.loose with
              | false => rw [hl] at h; cases h
              | true =>
                rw [hl, cond_true] at h
                cases hg : Γ f args σ.h with
                | none => rw [hg] at h; cases h
                | some q =>
                  obtain ⟨v, h'⟩ := q
                  rw [hg] at h
                  simp only at h
                  cases hp : put fi o.dst v { σ with h := h' } with
                  | none => rw [hp] at h; cases h
                  | some σ1 =>
                    rw [hp] at h
                    exact ⟨f, args, v, h', σ1, rfl, hl, hG _ _ _ _ _ hg, hp, runDrawL_ok hG l _ _ _ σ1 h hK⟩
          | false =>
            rw [hc, cond_false] at h
            rw [if_neg (by simp)]
            cases hop : op P X fi nm o σ with
            | none => rw [hop] at h; cases h
            | some q =>
              obtain ⟨v, σ1⟩ := q
              rw [hop] at h
              simp only at h
              cases hp : put fi o.dst v σ1 with
              | none => rw [hp] at h; cases h
              | some σ2 =>
                rw [hp] at h
                exact ⟨v, σ1, σ2, rfl, hp, runDrawL_ok hG l _ _ _ σ2 h hK⟩

theorem runLoop_ok {f : St → Option (Ex × St)} {g : St → (Ex → St → Prop) → Prop} (hfg : ∀ σ e σ' Q, f σ = some (e, σ') → Q e σ' → g σ Q) {e : Ex} {Q : Ex → St → Prop} : ∀ (n : Nat) (σ : St), runLoop f n σ = some (e, σ') → Q e σ' → LoopW g n σ Q
  | 0, σ, h, _ => by cases h
  | n + 1, σ, h, hQ => by
    simp only [runLoop] at h
    rw [LoopW]
    split at h
    · rename_i σ1 h1
      exact hfg _ _ _ _ h1 (runLoop_ok hfg n σ1 h hQ)
    · rename_i r hne
      refine hfg _ _ _ _ h ?_
      cases e with
      | norm => exact absurd h (hne σ')
      | exit id => exact hQ
      | ret => exact hQ

theorem runC_ok (hG : GOk P Γ) {n : Nat} : ∀ (c : Code) (σ : St) (e : Ex) (σ' : St) (Q : Ex → St → Prop), codeOk wins c = true → runC P X fi Γ wins n c σ = some (e, σ') → Q e σ' → WP P X fi (wpDraw P X fi wins) c σ Q
  | .skip, σ, e, σ', Q, _, h, hQ => by
    simp only [runC, Option.some.injEq, Prod.mk.injEq] at h
    obtain ⟨rfl, rfl⟩ := h
    exact hQ
  | .ret, σ, e, σ', Q, _, h, hQ => by
    simp only [runC, Option.some.injEq, Prod.mk.injEq] at h
    obtain ⟨rfl, rfl⟩ := h
    exact hQ
  | .exit id, σ, e, σ', Q, _, h, hQ => by
    simp only [runC, Option.some.injEq, Prod.mk.injEq] at h
    obtain ⟨rfl, rfl⟩ := h
    exact hQ
  | .seq a b, σ, e, σ', Q, hc, h, hQ => by
    simp only [codeOk, Bool.and_eq_true] at hc
    simp only [runC] at h
    simp only [WP]
    split at h
    · rename_i σ1 h1
      exact runC_ok hG a σ _ _ _ hc.1 h1 (runC_ok hG b σ1 e σ' Q hc.2 h hQ)
    · rename_i hne
      refine runC_ok hG a σ _ _ _ hc.1 h ?_
      cases e with
      | norm => exact absurd h (hne σ')
      | exit id => exact hQ
      | ret => exact hQ
  | .cond x a b, σ, e, σ', Q, hc, h, hQ => by
    simp only [codeOk, Bool.and_eq_true] at hc
    simp only [runC] at h
    simp only [WP]
    split at h
    · rename_i hx
      try simp only [hx]
      exact runC_ok hG a σ e σ' Q hc.1 h hQ
    · rename_i hx
      try simp only [hx]
      exact runC_ok hG b σ e σ' Q hc.2 h hQ
    · cases h
  | .block id c, σ, e, σ', Q, hc, h, hQ => by
    simp only [codeOk] at hc
    simp only [runC] at h
    simp only [WP]
    split at h
    · rename_i id' σ1 h1
      refine runC_ok hG c σ _ _ _ hc h1 ?_
      cases hb : Nat.beq id' id with
      | true =>
        rw [hb, cond_true] at h
        simp only [Option.some.injEq, Prod.mk.injEq] at h
        obtain ⟨rfl, rfl⟩ := h
        simp only [Nat.eq_of_beq_eq_true hb, if_true]
        exact hQ
      | false =>
        rw [hb, cond_false] at h
        simp only [Option.some.injEq, Prod.mk.injEq] at h
        obtain ⟨rfl, rfl⟩ := h
        simp only
        rw [if_neg (fun e => by rw [e, Nat.beq_refl] at hb; cases hb)]
        exact hQ
    · rename_i hne
      refine runC_ok hG c σ _ _ _ hc h ?_
      cases e with
      | norm => exact hQ
      | exit id' => exact absurd h (hne id' σ')
      | ret => exact hQ
  | .loop c, σ, e, σ', Q, hc, h, hQ => by
    simp only [codeOk] at hc
    simp only [runC] at h
    simp only [WP]
    exact ⟨n, runLoop_ok (fun σ e σ' Q h1 h2 => runC_ok hG c σ e σ' Q hc h1 h2) n σ h hQ⟩
  | .region id ops draw, σ, e, σ', Q, hc, h, hQ => by
    simp only [codeOk] at hc
    simp only [runC] at h
    simp only [WP]
    cases draw with
    | true =>
      rw [cond_true] at h
      simp only [Bool.not_true, Bool.false_or] at hc
      cases hs : startOk fi ops.toList σ with
      | false => rw [hs] at h; cases h
      | true =>
        rw [hs, cond_true] at h
        split at h
        · rename_i σ1 h1
          simp only [Option.some.injEq, Prod.mk.injEq] at h
          obtain ⟨rfl, rfl⟩ := h
          exact ⟨hc, hs, runDrawL_ok hG _ _ _ _ _ h1 hQ⟩
        · cases h
    | false =>
      rw [cond_false] at h
      split at h
      · rename_i σ1 h1
        simp only [Option.some.injEq, Prod.mk.injEq] at h
        obtain ⟨rfl, rfl⟩ := h
        exact runOps_ok hG _ _ h1 hQ
      · cases h
  | .rangeFunc .., _, _, _, _, _, h, _ => by simp [runC] at h
  | .scope _, _, _, _, _, _, h, _ => by simp [runC] at h
  | .label _, _, _, _, _, _, h, _ => by simp [runC] at h
  | .goto _, _, _, _, _, _, h, _ => by simp [runC] at h
  | .refuse _, _, _, _, _, _, h, _ => by simp [runC] at h

/-- What the machine is told of a function is so. -/
structure FnOk (P : Program) (f : FuncId) (fn : Fn) : Prop where
  ok : ∃ g : Func, P.funcs[f]? = some g ∧ g.body = some fn.body ∧ g.name ≠ "runtime.NumGoroutine" ∧ fn.fi.nt = g.ntmps ∧ g.results.toList = fn.res
  code : codeOk fn.wins fn.body = true

theorem get_filter {α : Type} (p : Nat × α → Bool) (hp : ∀ k x y, p (k, x) = p (k, y)) : ∀ (l : List (Nat × α)) (t : Nat) {x : α}, get (l.filter p) t = some x → get l t = some x
  | [], t, x, h => by simp [get] at h
  | (k, y) :: l, t, x, h => by
    rw [get_cons]
    cases hk : p (k, y) with
    | true =>
      rw [List.filter_cons_of_pos hk, get_cons] at h
      split
      · rename_i he
        rw [if_pos he] at h
        exact h
      · rename_i he
        rw [if_neg he] at h
        exact get_filter p hp l t h
    | false =>
      rw [List.filter_cons_of_neg (by simp [hk])] at h
      have := get_filter p hp l t h
      split
      · rename_i he
        subst he
        exfalso
        -- a key that is dropped is dropped wherever it stands
        have hno : ∀ l' : List (Nat × α), get (l'.filter p) k = none := fun l' => by
          induction l' with
          | nil => rfl
          | cons q l' ih =>
            obtain ⟨k', z⟩ := q
            cases hq : p (k', z) with
            | true =>
              rw [List.filter_cons_of_pos hq, get_cons, if_neg (fun e => by subst e; rw [hp k' y z, hq] at hk; cases hk)]
              exact ih
            | false => rw [List.filter_cons_of_neg (by simp [hq])]; exact ih
        rw [hno] at h
        cases h
      · exact this

theorem dropH_sub (keep : Bool) (h h' : Heap) : Sub (dropH keep h h') h' := by
  cases keep with
  | true => exact Sub.refl _
  | false => exact ⟨Nat.le_refl _, fun b x hx => get_filter (fun p => Nat.blt p.1 h.next) (fun _ _ _ => rfl) _ _ hx⟩

theorem callN_ok (hT : TtOk P X) (hF : FlatOk P X) (hm : P.follows .mixedOrders = true) {F : FuncId → Option Fn} (hfn : ∀ f fn, F f = some fn → FnOk P f fn) (loops : Nat) : ∀ n, GOk P (callN P X F loops n)
  | 0 => fun f args h v h' e => by cases e
  | n + 1 => fun f args h v h' e => by
    rw [callN] at e
    cases hf : F f with
    | none => rw [hf] at e; cases e
    | some fn =>
      rw [hf] at e
      simp only at e
      obtain ⟨⟨g, g1, g2, g3, g4, g5⟩, hcode⟩ := hfn f fn hf
      have ih := callN_ok hT hF hm hfn loops n
      have fin : ∀ ex σ, (ex = Ex.norm ∨ ex = Ex.ret) → runC P X fn.fi (callN P X F loops n) fn.wins loops fn.body ⟨argsEnv 0 args, [], h⟩ = some (ex, σ) →
          cond (Nat.ble h.next σ.h.next && Nat.ble args.length fn.fi.nt) ((resE X σ fn.res).map fun v => (v, dropH fn.keep h σ.h)) none = some (v, h') → ACall P f args h v h' := fun ex σ hex hr e => by
        cases hb : Nat.ble h.next σ.h.next && Nat.ble args.length fn.fi.nt with
        | false => rw [hb] at e; cases e
        | true =>
          rw [hb, cond_true] at e
          simp only [Bool.and_eq_true, Nat.ble_eq] at hb
          simp only [Option.map_eq_some_iff, Prod.mk.injEq] at e
          obtain ⟨v', e1, rfl, rfl⟩ := e
          refine acall (fi := fn.fi) (D := wpDraw P X fn.fi fn.wins) (X := X) hT hF (drawOk hT hF hm fn.wins) g1 g2 g3 g4 (by rw [← g4]; exact hb.2) (Nat.le_trans hb.1 (dropH_sub fn.keep h σ.h).1) ?_
          exact runC_ok ih fn.body _ ex σ _ hcode hr ⟨hex, by rw [g5]; exact e1, dropH_sub fn.keep h σ.h⟩
      split at e
      · rename_i σ hr
        exact fin _ σ (.inl rfl) hr e
      · rename_i σ hr
        exact fin _ σ (.inr rfl) hr e
      · cases e
end
end E
end Go.Proofs.Ytibdplfdmncgiaa

/-
  An abstract machine of this place's own: what it is told of the types. No condition.
-/
namespace Go.Proofs.Ytibdplfdmncgiaa
open Go.RowKit
namespace E

/-- A type, if its zero has its cells. -/
def ttOf (P : Program) (t : TypeId) : Option TI :=
  match tiOf P t with
  | some ti => match ti.zero with
    | some z => cond (Nat.beq z.cells.size ti.size) (some ti) none
    | none => none
  | none => none

def flatFs (g : TypeId → Option (List CK)) : Nat → List Field → Option (List CK)
  | _, [] => some []
  | o, f :: fs => if f.name ≠ "_" ∧ f.offset = o then match g f.type with
      | some ks => match flatFs g (o + ks.length) fs with
        | some ls => some (ks ++ ls)
        | none => none
      | none => none
    else none

/-- A type whose values compare cell by cell. -/
def flatT (P : Program) : Nat → TypeId → Option (List CK)
  | 0, _ => none
  | d + 1, t => match tiOf P t with
    | some ti => match ti.desc with
      | .bool => some [.b]
      | .int _ => some [.i]
      | .string => some [.s]
      | .struct fs => if P.stoodInHeld t = false then match flatFs (flatT P d) 0 fs.toList with
          | some ks => if ks.length = ti.size then some ks else none
          | none => none
        else none
      | _ => none
    | none => none

def flatOf (P : Program) (t : TypeId) : Option (List CK) :=
  match P.underlying t with
  | some (.struct _) => if P.eqGuardType P.depth t = false then flatT P 20 t else none
  | _ => none

def ctxOf (P : Program) : Ctx := { tt := ttOf P, flat := flatOf P }

section
variable {P : Program}

theorem ttOk : TtOk P (ctxOf P) := fun t ti h => by
  have h : ttOf P t = some ti := h
  unfold ttOf at h
  split at h
  · rename_i ti' h1
    split at h
    · rename_i z hz
      cases hb : Nat.beq z.cells.size ti'.size with
      | false => rw [hb] at h; cases h
      | true =>
        rw [hb, cond_true, Option.some.injEq] at h
        subst h
        exact ⟨h1, z, hz, Nat.eq_of_beq_eq_true hb⟩
    · cases h
  · cases h

theorem tiOf_some {t : TypeId} {ti : TI} (h : tiOf P t = some ti) : ∃ i, P.info? t = some i ∧ i.size = ti.size ∧ P.underlying t = some ti.desc := by
  unfold tiOf at h
  split at h
  · rename_i i d h1 h2
    simp only [Option.some.injEq] at h
    subst h
    exact ⟨i, h1, rfl, h2⟩
  · cases h

theorem eqK_split : ∀ (ks ls : List CK) (xs ys : List C) {r : Bool}, eqK (ks ++ ls) xs ys = some r → ∃ a b, eqK ks (xs.take ks.length) (ys.take ks.length) = some a ∧ eqK ls (xs.drop ks.length) (ys.drop ks.length) = some b ∧ r = (a && b)
  | [], ls, xs, ys, r, h => ⟨true, r, by simp [eqK], by simpa using h, by simp⟩
  | k :: ks, ls, [], ys, r, h => by cases ys <;> simp [eqK] at h
  | k :: ks, ls, x :: xs, [], r, h => by simp [eqK] at h
  | k :: ks, ls, x :: xs, y :: ys, r, h => by
    rw [List.cons_append, eqK] at h
    split at h
    · rename_i a b h1 h2
      simp only [Option.some.injEq] at h
      obtain ⟨a', b', g1, g2, rfl⟩ := eqK_split ks ls xs ys h2
      refine ⟨a && a', b', ?_, by simpa using g2, by rw [← h, Bool.and_assoc]⟩
      simp only [List.length_cons, List.take_succ_cons, eqK, h1, g1]
    · cases h

theorem eqK_length : ∀ {ks : List CK} {xs ys : List C} {r : Bool}, eqK ks xs ys = some r → xs.length = ks.length ∧ ys.length = ks.length
  | [], [], [], _, _ => ⟨rfl, rfl⟩
  | k :: ks, x :: xs, y :: ys, r, h => by
    rw [eqK] at h
    split at h
    · rename_i a b h1 h2
      obtain ⟨g1, g2⟩ := eqK_length h2
      simp [g1, g2]
    · cases h
  | [], _ :: _, _, _, h => by simp [eqK] at h
  | [], [], _ :: _, _, h => by simp [eqK] at h
  | _ :: _, [], ys, _, h => by cases ys <;> simp [eqK] at h
  | _ :: _, _ :: _, [], _, h => by simp [eqK] at h

/-- A value's cells. -/
def cellsT : Bool → Value → List Value
  | true, .agg cs => cs.toList
  | true, _ => []
  | false, x => [x]

def Fit (agg : Bool) (x : Value) : Prop := agg = true → ∃ arr, x = .agg arr

def EqAt (P : Program) (e : Nat) (t : TypeId) (ks : List CK) (agg : Bool) : Prop :=
  ∀ x y r w, Fit agg x → Fit agg y → eqK ks ((cellsT agg x).map .lit) ((cellsT agg y).map .lit) = some r → (Op.equalIn e t x y).run P w = .ok r w

/-- A part of a value of cells. -/
theorem part_at {t : TypeId} {ti : TI} (ht : tiOf P t = some ti) {arr : Array Value} {o : Nat} (hle : o + sizeV ti ≤ arr.size) (w : World) :
    ∃ x, (part t arr o).run P w = .ok x w ∧ Fit (isAggD ti.desc) x ∧ cellsT (isAggD ti.desc) x = (arr.toList.drop o).take (sizeV ti) := by
  obtain ⟨i, hi, hs, hu⟩ := tiOf_some ht
  have hagg : (isAgg t).run P w = .ok (isAggD ti.desc) w := by
    unfold isAgg
    rw [Sem.run_bind, run_underlying hu w]
    cases ti.desc <;> rfl
  cases hd : isAggD ti.desc with
  | true =>
    rw [hd] at hagg
    have hsz : sizeV ti = ti.size := by simp [sizeV, hd]
    refine ⟨.agg (arr.extract o (o + i.size)), ?_, fun _ => ⟨_, rfl⟩, ?_⟩
    · simp [part, hagg, Go.sizeOf, typeInfo, hi]
    · rw [hs, ← hsz]
      simp [cellsT, List.extract_eq_take_drop, Array.toList_extract]
  | false =>
    rw [hd] at hagg
    have hsz : sizeV ti = 1 := by simp [sizeV, hd]
    have hlt : o < arr.size := by omega
    refine ⟨arr[o], ?_, (fun h => by cases h), ?_⟩
    · have hy' : arr[o]? = some arr[o] := by simp [hlt]
      simp [part, hagg, hy']
    · rw [hsz, List.take_one, List.head?_drop]
      simp [cellsT, hlt]

theorem eqFields_ok {g : TypeId → Option (List CK)} {e : Nat} (hg : ∀ t ks, g t = some ks → ∃ ti, tiOf P t = some ti ∧ ks.length = sizeV ti ∧ EqAt P e t ks (isAggD ti.desc)) : ∀ (fs : List Field) (o : Nat) (ks : List CK) (xs ys : Array Value) (r : Bool) (w : World), flatFs g o fs = some ks →
    o ≤ xs.size → o ≤ ys.size → eqK ks ((xs.toList.drop o).map .lit) ((ys.toList.drop o).map .lit) = some r → (Op.eqFields e xs ys fs).run P w = .ok r w
  | [], o, ks, xs, ys, r, w, h, _, _, he => by
    simp only [flatFs, Option.some.injEq] at h
    subst h
    have hr : r = true := by
      obtain ⟨h1, h2⟩ := eqK_length he
      rw [List.length_eq_zero_iff.1 h1, List.length_eq_zero_iff.1 h2] at he
      simpa [eqK] using he.symm
    subst hr
    simp [Op.eqFields]
  | f :: fs, o, ks, xs, ys, r, w, h, ho1, ho2, he => by
    rw [flatFs] at h
    split at h
    case isFalse => cases h
    rename_i hf
    split at h
    case h_2 => cases h
    rename_i k1 hk1
    split at h
    case h_2 => cases h
    rename_i ls hls
    simp only [Option.some.injEq] at h
    subst h
    obtain ⟨ti, hti, hlen, heq⟩ := hg _ _ hk1
    obtain ⟨l1, l2⟩ := eqK_length he
    simp only [List.length_map, List.length_drop, List.length_append, Array.length_toList] at l1 l2
    obtain ⟨a, b, g1, g2, rfl⟩ := eqK_split _ _ _ _ he
    obtain ⟨x, x1, x2, x3⟩ := part_at (P := P) hti (arr := xs) (o := o) (by omega) w
    obtain ⟨y, y1, y2, y3⟩ := part_at (P := P) hti (arr := ys) (o := o) (by omega) w
    have hrun := heq x y a w x2 y2 (by rw [x3, y3, ← hlen, List.map_take, List.map_take]; exact g1)
    have hrest := eqFields_ok hg fs (o + k1.length) ls xs ys b w hls (by omega) (by omega) (by rw [← List.map_drop, ← List.map_drop, List.drop_drop, List.drop_drop] at g2; exact g2)
    rw [Op.eqFields, if_pos hf.1, hf.2]
    simp only [Sem.run_bind, x1, y1, hrun, Result.andThen_ok, Sem.run_ite]
    cases a with
    | false => simp
    | true => simpa using hrest

theorem eqK1_bb {x y : Value} {a : Bool} (h : eqK1 .b (.lit x) (.lit y) = some a) : ∃ p q, x = .bool p ∧ y = .bool q ∧ (p == q) = a := by
  cases x <;> first | (simp [eqK1] at h; done) | skip
  cases y <;> first | (simp [eqK1] at h; done) | skip
  simp only [eqK1, Option.some.injEq] at h
  exact ⟨_, _, rfl, rfl, h⟩
theorem eqK1_ss {x y : Value} {a : Bool} (h : eqK1 .s (.lit x) (.lit y) = some a) : ∃ p q, x = .string p ∧ y = .string q ∧ strEq p q = a := by
  cases x <;> first | (simp [eqK1] at h; done) | skip
  cases y <;> first | (simp [eqK1] at h; done) | skip
  simp only [eqK1, Option.some.injEq] at h
  exact ⟨_, _, rfl, rfl, h⟩
theorem eqK1_ii {x y : Value} {a : Bool} (h : eqK1 .i (.lit x) (.lit y) = some a) : ∃ j p q, x = .int j p ∧ y = .int j q ∧ (p == q) = a := by
  cases x <;> first | (simp [eqK1] at h; done) | skip
  cases y <;> first | (simp [eqK1] at h; done) | skip
  simp only [eqK1] at h
  split at h
  · rename_i e
    subst e
    simp only [Option.some.injEq] at h
    exact ⟨_, _, _, rfl, rfl, h⟩
  · cases h

theorem eqK_one {k : CK} {x y : Value} {r : Bool} (h : eqK [k] [.lit x] [.lit y] = some r) : eqK1 k (.lit x) (.lit y) = some r := by
  rw [eqK] at h
  split at h
  · rename_i a b h1 h2
    simp only [eqK, Option.some.injEq] at h h2
    subst h2
    rw [h1, ← h, Bool.and_true]
  · cases h

theorem flat_ok : ∀ (d : Nat) (t : TypeId) (ks : List CK), flatT P d t = some ks → ∃ ti, tiOf P t = some ti ∧ ks.length = sizeV ti ∧ ∀ e, d ≤ e → EqAt P e t ks (isAggD ti.desc)
  | 0, t, ks, h => by cases h
  | d + 1, t, ks, h => by
    rw [flatT] at h
    cases hti : tiOf P t with
    | none => rw [hti] at h; cases h
    | some ti =>
      rw [hti] at h
      simp only at h
      obtain ⟨i, hi, hs, hu⟩ := tiOf_some hti
      refine ⟨ti, rfl, ?_⟩
      split at h
      · rename_i hd
        simp only [Option.some.injEq] at h
        subst h
        refine ⟨by simp [sizeV, hd, isAggD], fun e he x y r w _ _ hr => ?_⟩
        obtain ⟨e, rfl⟩ : ∃ e', e = e' + 1 := ⟨e - 1, by omega⟩
        rw [hd] at hr
        obtain ⟨p, q, rfl, rfl, h1⟩ := eqK1_bb (eqK_one hr)
        rw [run_equalIn_bool' w e t _ _ (by rw [hu, hd]), h1]
      · rename_i k hd
        simp only [Option.some.injEq] at h
        subst h
        refine ⟨by simp [sizeV, hd, isAggD], fun e he x y r w _ _ hr => ?_⟩
        obtain ⟨e, rfl⟩ : ∃ e', e = e' + 1 := ⟨e - 1, by omega⟩
        rw [hd] at hr
        obtain ⟨j, p, q, rfl, rfl, h1⟩ := eqK1_ii (eqK_one hr)
        rw [run_equalIn_int w e t _ k _ _ (by rw [hu, hd]), h1]
      · rename_i hd
        simp only [Option.some.injEq] at h
        subst h
        refine ⟨by simp [sizeV, hd, isAggD], fun e he x y r w _ _ hr => ?_⟩
        obtain ⟨e, rfl⟩ : ∃ e', e = e' + 1 := ⟨e - 1, by omega⟩
        rw [hd] at hr
        obtain ⟨p, q, rfl, rfl, h1⟩ := eqK1_ss (eqK_one hr)
        rw [run_equalIn_string w e t _ _ (by rw [hu, hd]), strEq_eq, h1]
      · rename_i fs hd
        split at h
        case isFalse => cases h
        rename_i hst
        split at h
        case h_2 => cases h
        rename_i ks' hks
        split at h
        case isFalse => cases h
        rename_i hlen
        simp only [Option.some.injEq] at h
        subst h
        have hagg : isAggD ti.desc = true := by rw [hd]; rfl
        refine ⟨by simp [sizeV, hagg, hlen], fun e he x y r w hx hy hr => ?_⟩
        obtain ⟨e, rfl⟩ : ∃ e', e = e' + 1 := ⟨e - 1, by omega⟩
        obtain ⟨xs, rfl⟩ := hx hagg
        obtain ⟨ys, rfl⟩ := hy hagg
        rw [hagg] at hr
        have hfo : P.fieldsOf t = fs := by simp [Program.fieldsOf, hu, hd]
        rw [run_equalIn_struct w e t xs ys (by rw [hu, hd, hfo]) hst, hfo]
        exact eqFields_ok (g := flatT P d) (fun t' ks' h' => by
          obtain ⟨ti', k1, k2, k3⟩ := flat_ok d t' ks' h'
          exact ⟨ti', k1, k2, k3 e (by omega)⟩) fs.toList 0 _ xs ys r w hks (Nat.zero_le _) (Nat.zero_le _) (by simpa [cellsT] using hr)
      · cases h

def keyFs (b : Bool) (n : Nat) (xs : Array Value) : List Field → Sem Unit
  | [] => pure ()
  | f :: fs =>
    if f.name ≠ "_" then do
      let a ← part f.type xs f.offset
      Instr.checkKey b n f.type a
      keyFs b n xs fs
    else keyFs b n xs fs

theorem run_key_struct (b : Bool) (n : Nat) (t : TypeId) (xs : Array Value) (w : World) (ht : P.underlying t = some (.struct (P.fieldsOf t))) :
    (Instr.checkKey b (n + 1) t (.agg xs)).run P w = (keyFs b n xs (P.fieldsOf t).toList).run P w := by
  simp only [Instr.checkKey, Sem.run_bind, run_underlying ht, Result.andThen_ok]
  rw [← Array.forIn_toList]
  generalize (P.fieldsOf t).toList = fs
  clear ht
  induction fs generalizing w with
  | nil => simp [keyFs]
  | cons f fs ih =>
    simp only [List.forIn_cons, keyFs, Sem.run_bind, Sem.run_ite]
    split
    · generalize (part f.type xs f.offset).run P w = r1
      cases r1 with
      | ok a w1 =>
        simp only [Result.andThen_ok]
        generalize (Instr.checkKey b n f.type a).run P w1 = r3
        cases r3 with
        | ok r w3 =>
          simp only [Result.andThen_ok, Sem.run_pure]
          exact ih w3
        | halt x w3 => simp [Result.andThen]
      | halt x w1 => simp [Result.andThen]
    · simp only [Sem.run_pure, Result.andThen_ok]
      exact ih w

theorem keyFs_ok {b : Bool} {n : Nat} {g : TypeId → Option (List CK)} (hg : ∀ t ks, g t = some ks → ∃ ti, tiOf P t = some ti ∧ ks.length = sizeV ti ∧ ∀ x w, Fit (isAggD ti.desc) x → (cellsT (isAggD ti.desc) x).length = ks.length → (Instr.checkKey b n t x).run P w = .ok () w) : ∀ (fs : List Field) (o : Nat) (ks : List CK) (xs : Array Value) (w : World), flatFs g o fs = some ks →
    o ≤ xs.size → xs.size - o = ks.length → (keyFs b n xs fs).run P w = .ok () w
  | [], o, ks, xs, w, _, _, _ => by simp [keyFs]
  | f :: fs, o, ks, xs, w, h, ho, hl => by
    rw [flatFs] at h
    split at h
    case isFalse => cases h
    rename_i hf
    split at h
    case h_2 => cases h
    rename_i k1 hk1
    split at h
    case h_2 => cases h
    rename_i ls hls
    simp only [Option.some.injEq] at h
    subst h
    rw [List.length_append] at hl
    obtain ⟨ti, hti, hlen, hck⟩ := hg _ _ hk1
    obtain ⟨x, x1, x2, x3⟩ := part_at (P := P) hti (arr := xs) (o := o) (by omega) w
    have hrun := hck x w x2 (by rw [x3]; simp; omega)
    have hrest := keyFs_ok hg fs (o + k1.length) ls xs w hls (by omega) (by omega)
    rw [keyFs, if_pos hf.1, hf.2]
    simp only [Sem.run_bind, x1, hrun, Result.andThen_ok, hrest]

theorem key_ok (b : Bool) : ∀ (d : Nat) (t : TypeId) (ks : List CK), flatT P d t = some ks → ∃ ti, tiOf P t = some ti ∧ ks.length = sizeV ti ∧ ∀ e, d ≤ e → ∀ x w, Fit (isAggD ti.desc) x → (cellsT (isAggD ti.desc) x).length = ks.length → (Instr.checkKey b e t x).run P w = .ok () w
  | 0, t, ks, h => by cases h
  | d + 1, t, ks, h => by
    obtain ⟨ti, hti, hlen, _⟩ := flat_ok (d + 1) t ks h
    refine ⟨ti, hti, hlen, fun e he x w hx hl => ?_⟩
    obtain ⟨e, rfl⟩ : ∃ e', e = e' + 1 := ⟨e - 1, by omega⟩
    obtain ⟨i, hi, hs, hu⟩ := tiOf_some hti
    rw [flatT, hti] at h
    simp only at h
    split at h
    · rename_i hd
      simp [Instr.checkKey, run_underlying hu, hd]
    · rename_i hd
      simp [Instr.checkKey, run_underlying hu, hd]
    · rename_i hd
      simp [Instr.checkKey, run_underlying hu, hd]
    · rename_i fs hd
      split at h
      case isFalse => cases h
      split at h
      case h_2 => cases h
      rename_i ks' hks
      split at h
      case isFalse => cases h
      simp only [Option.some.injEq] at h
      subst h
      have hagg : isAggD ti.desc = true := by rw [hd]; rfl
      obtain ⟨xs, rfl⟩ := hx hagg
      have hfo : P.fieldsOf t = fs := by simp [Program.fieldsOf, hu, hd]
      rw [run_key_struct b e t xs w (by rw [hu, hd, hfo]), hfo]
      rw [hagg] at hl
      exact keyFs_ok (g := flatT P d) (fun t' ks' h' => by
        obtain ⟨ti', k1, k2, k3⟩ := key_ok b d t' ks' h'
        exact ⟨ti', k1, k2, k3 e (by omega)⟩) fs.toList 0 _ xs w hks (Nat.zero_le _) (by simpa [cellsT] using hl)
    · cases h

/-! ### Tables -/
theorem leaf {n k : Nat} {F fn : Fn} (h : cond (Nat.beq n k) (some F) none = some fn) (hk : FnOk P k F) : FnOk P n fn := by
  cases hb : Nat.beq n k with
  | false => rw [hb] at h; cases h
  | true =>
    rw [hb, cond_true, Option.some.injEq] at h
    subst h
    rw [Nat.eq_of_beq_eq_true hb]
    exact hk

theorem node {b : Bool} {x y : Option Fn} {fn : Fn} {R : Prop} (h : cond b x y = some fn) (hx : x = some fn → R) (hy : y = some fn → R) : R := by
  cases b
  · exact hy h
  · exact hx h

theorem flatOk : FlatOk P (ctxOf P) := fun t ks h => by
  have h : flatOf P t = some ks := h
  unfold flatOf at h
  split at h
  case h_2 => cases h
  rename_i fs hu
  split at h
  case isFalse => cases h
  rename_i hg
  refine ⟨hg, fun xs ys r he w => ?_⟩
  obtain ⟨ti, h1, h2, h3⟩ := flat_ok 20 t ks h
  obtain ⟨i, hi, hs, hu'⟩ := tiOf_some h1
  rw [hu, Option.some.injEq] at hu'
  have hagg : isAggD ti.desc = true := by rw [← hu']; rfl
  rw [hagg] at h3
  refine ⟨h3 10000 (by omega) _ _ r w (fun _ => ⟨_, rfl⟩) (fun _ => ⟨_, rfl⟩) he, fun b => ?_⟩
  obtain ⟨ti', k1, k2, k3⟩ := key_ok b 20 t ks h
  rw [h1, Option.some.injEq] at k1
  subst k1
  refine k3 10000 (by omega) _ w (fun _ => ⟨_, rfl⟩) ?_
  rw [hagg]
  have := (eqK_length he).1
  simpa [cellsT] using this
end
end E
end Go.Proofs.Ytibdplfdmncgiaa
