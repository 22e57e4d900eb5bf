/-
  An abstract machine of this place's own: slices, structs and rows that are built: in the model as here. No condition.
-/
import Derived.Test.YtnfehccnofhmnaaE6
set_option linter.all false
namespace Go.Proofs.Ytnfehccnofhmnaa
open Go.RowKit
namespace E
section ops
variable {P : Program} {X : Ctx} {fi : Fi} {N N' nm : Nat} {β : Pls} {μ : Fms} {nt : Nat} {σ σ' : St} {a : Act} {w : World} {o : Oper} {v : V}

theorem optIdx_ok (hS : SRel N β μ nt σ a w) {x : Option Operand} {l : Option Int} (h : optIdx σ x = some l) :
    (x = none ∧ l = none) ∨ ∃ y k i, x = some y ∧ l = some i ∧ a.eval y = .int k i := by
  unfold optIdx at h
  split at h
  · simp only [Option.some.injEq] at h; exact .inl ⟨rfl, h.symm⟩
  · rename_i y
    split at h
    · rename_i u hu
      simp only [Option.map_eq_some_iff] at h
      obtain ⟨i, hi, rfl⟩ := h
      obtain ⟨k, hk⟩ := idx_ok hi (ev_ok hS hu)
      exact .inr ⟨y, k, i, rfl, rfl, hk⟩
    · cases h

theorem run_sliceBound {u : Value} {k : IntKind} {i : Int} {y : Nat} {c : BoundsCode} (hu : u = .int k i) (h0 : 0 ≤ i) (h1 : i ≤ y) : (Instr.sliceBound u y c).run P w = .ok i.toNat w := by
  subst hu
  simp [Instr.sliceBound, asIntOf, h0, h1]

theorem run_bounds (hS : SRel N β μ nt σ a w) {lo hi mx : Option Operand} {l h m : Option Int} (h1 : optIdx σ lo = some l) (h2 : optIdx σ hi = some h) (h3 : optIdx σ mx = some m)
    {len cap rc : Nat} {l' h' m' : Nat} (hb : bounds len cap l h m = some (l', h', m')) (hc : cap ≤ rc) (b : Bool) :
    (Instr.sliceBounds b len rc (lo.map a.eval) (hi.map a.eval) (mx.map a.eval)).run P w = .ok (l', h', if mx.isSome then m' else rc) w ∧ l' ≤ h' ∧ h' ≤ m' ∧ m' ≤ cap ∧ (mx = none → m' = cap) := by
  simp only [bounds] at hb
  split at hb
  case isFalse => cases hb
  rename_i hcond
  simp only [Bool.and_eq_true, decide_eq_true_eq, Bool.or_eq_true] at hcond
  obtain ⟨⟨⟨⟨g0, g1⟩, g2⟩, g3⟩, g4⟩ := hcond
  simp only [Option.some.injEq, Prod.mk.injEq] at hb
  obtain ⟨rfl, rfl, rfl⟩ := hb
  rcases optIdx_ok hS h1 with ⟨rfl, rfl⟩ | ⟨y1, k1, i1, rfl, rfl, e1⟩ <;> rcases optIdx_ok hS h2 with ⟨rfl, rfl⟩ | ⟨y2, k2, i2, rfl, rfl, e2⟩ <;> rcases optIdx_ok hS h3 with ⟨rfl, rfl⟩ | ⟨y3, k3, i3, rfl, rfl, e3⟩ <;>
    simp only [Option.getD_none, Option.getD_some, Option.isNone_none, Option.isSome_none, Option.isNone_some, Option.isSome_some, Bool.false_eq_true, or_false, false_or, or_true, true_or] at g0 g1 g2 g3 g4 <;>
    (refine ⟨?_, ?_, ?_, ?_, ?_⟩) <;> (try simp only [Option.getD_none, Option.getD_some]) <;> (try omega) <;> (try simp) <;>
    (try unfold Instr.sliceBounds) <;> (try simp only [Option.map_none, Option.map_some]) <;> (try simp only [Sem.run_bind, Sem.run_pure, Result.andThen_ok])
  · rw [run_sliceBound e2 (by omega) (by omega)]; rfl
  · rw [run_sliceBound e3 (by omega) (by omega)]; simp only [Result.andThen_ok]; rw [run_sliceBound e2 (by omega) (by omega)]; rfl
  · rw [run_sliceBound e1 (by omega) (by omega)]; rfl
  · rw [run_sliceBound e2 (by omega) (by omega)]; simp only [Result.andThen_ok]; rw [run_sliceBound e1 (by omega) (by omega)]; rfl
  · rw [run_sliceBound e3 (by omega) (by omega)]; simp only [Result.andThen_ok]; rw [run_sliceBound e2 (by omega) (by omega)]; simp only [Result.andThen_ok]; rw [run_sliceBound e1 (by omega) (by omega)]; rfl

theorem op_slice (hT : TtOk P X) (hN : N ≤ N') (hS : SRel N β μ nt σ a w) {t : TypeId} {x : Operand} {lo hi mx : Option Operand} (ho : o.op = .slice t x lo hi mx) (h : op P X fi nm o σ = some (v, σ')) : OpOk P fi N' nm β μ nt σ a w o v σ' := by
  simp only [op, ho] at h
  split at h
  case h_2 => cases h
  rename_i l h' m h1 h2 h3
  split at h
  · exact op_pure hN hS (fun _ _ => by rw [ho]; exact fun h => by cases h) h
  · rename_i c _ hev
    have hx := ev_ok hS hev
    simp only [Option.map_eq_some_iff, Prod.mk.injEq] at h
    obtain ⟨c', h7, rfl, rfl⟩ := h
    unfold sliceE at h7
    split at h7
    case h_2 => cases h7
    rename_i ti hti
    split at h7
    · rename_i e hd
      split at h7
      · rename_i et b q len cap het _
        obtain ⟨i, hi', hs, hb, hz, hue, hu⟩ := elem_info hT hti (.inl hd) het
        rw [hd] at hu
        split at h7
        case h_2 => cases h7
        rename_i l' h'' m' hbd
        split at h7
        case isFalse => cases h7
        rename_i hszok
        simp only [Option.some.injEq] at h7
        subst h7
        obtain ⟨p, k, rc, hβ, hx', hlc, hcr, hk, hgrow⟩ := hx
        obtain ⟨hrun, b1, b2, b3, b4⟩ := run_bounds (P := P) hS h1 h2 h3 hbd hcr true
        refine OpOk.val hN hS (x := .slice (if (if mx.isSome then m' else rc) = l' then some ⟨p.rb, k, none⟩ else some (Addr.add ⟨p.rb, k, none⟩ (l' * i.size))) (h'' - l') ((if mx.isSome then m' else rc) - l')) ?_ ?_
        · unfold execOp
          simp [ho, hx', Instr.sliceAt, run_underlying hu, Instr.slice, hrun, Go.sizeOf, typeInfo, hi']
        · have hsz : l' = 0 ∨ p.sz = et.size ∨ p.sz = 0 := by
            simp only [szOk, Bool.or_eq_true] at hszok
            rcases hszok with h0 | h0
            · exact .inl (Nat.eq_of_beq_eq_true h0)
            · split at h0
              · rename_i rw' sz' cs' hblk
                obtain ⟨p', g1, g2⟩ := hS.heap.blk b _ hblk
                rw [hβ, Option.some.injEq] at g1
                subst g1
                have hps : p.sz = sz' := g2.1
                simp only [Bool.or_eq_true] at h0
                rcases h0 with h0 | h0
                · exact .inr (.inl (by rw [hps]; exact Nat.eq_of_beq_eq_true h0))
                · exact .inr (.inr (by rw [hps]; exact Nat.eq_of_beq_eq_true h0))
              · cases h0
          refine ⟨p, if (if mx.isSome then m' else rc) = l' then k else k + l' * i.size, (if mx.isSome then m' else rc) - l', hβ, ?_, by omega, ?_, ?_, ?_⟩
          · by_cases hq : (if mx.isSome = true then m' else rc) = l'
            · rw [if_pos hq, if_pos hq]
            · rw [if_neg hq, if_neg hq, Addr.add_mid]
          · split <;> omega
          · intro hne
            rw [if_neg (by omega), hs]
            have := hk (by split at hne <;> omega)
            omega
          · cases hmx : mx with
            | some _ => left; simp
            | none =>
              rw [hmx] at b4
              have hm := b4 rfl
              simp only [Option.isSome_none, Bool.false_eq_true, if_false]
              rcases hgrow with hg | ⟨g0, g1, g2⟩
              · left; omega
              · right
                refine ⟨g0, ?_, ?_⟩
                · rcases hsz with h0 | h0 | h0
                  · subst h0; simp; rw [hm]; exact g1
                  · rw [hm, h0, Nat.add_assoc, ← Nat.add_mul, show l' + (cap - l') = cap by omega, ← h0]; exact g1
                  · omega
                · rcases hsz with h0 | h0 | h0
                  · subst h0; simpa using g2
                  · have : p.ro + (q + l' * et.size) + (rc - l') * p.sz = p.ro + q + rc * p.sz := by
                      rw [h0, ← Nat.add_assoc, Nat.add_assoc (p.ro + q), ← Nat.add_mul, show l' + (rc - l') = rc by omega]
                    omega
                  · omega
      · rename_i et het _
        obtain ⟨i, hi', hs, hb, hz, hue, hu⟩ := elem_info hT hti (.inl hd) het
        rw [hd] at hu
        split at h7
        case h_2 => cases h7
        rename_i q hbd
        obtain ⟨l', h'', m'⟩ := q
        simp only [Option.some.injEq] at h7
        subst h7
        have hx' : a.eval x = .slice none 0 0 := hx
        obtain ⟨hrun, b1, b2, b3, b4⟩ := run_bounds (P := P) hS h1 h2 h3 hbd (Nat.le_refl _) true
        have hl0 : l' = 0 := by omega
        have hh0 : h'' = 0 := by omega
        have hm0 : m' = 0 := by omega
        subst hl0; subst hh0; subst hm0
        refine OpOk.val hN hS (x := .slice none 0 0) ?_ rfl
        unfold execOp
        simp [ho, hx', Instr.sliceAt, run_underlying hu, Instr.slice, hrun, Go.sizeOf, typeInfo, hi']
      · cases h7
    · rename_i n e hd
      split at h7
      · rename_i et b q het _
        obtain ⟨i, hi', hs, hb, hz, hue, hu⟩ := elem_info hT hti (.inr ⟨n, hd⟩) het
        rw [hd] at hu
        split at h7
        case h_2 => cases h7
        rename_i l' h'' m' hbd
        split at h7
        · cases h7
        · rename_i hmx
          simp only [Option.some.injEq] at h7
          subst h7
          have hmn : mx = none := by
            rcases optIdx_ok hS h3 with ⟨e1, _⟩ | ⟨_, _, _, _, e2, _⟩
            · exact e1
            · rw [e2] at hmx; simp at hmx
          obtain ⟨p, hβ, hx'⟩ := hx
          obtain ⟨hrun, b1, b2, b3, b4⟩ := run_bounds (P := P) hS h1 h2 h3 hbd (Nat.le_refl _) false
          have hm := b4 hmn
          subst hmn
          simp only [Option.isSome_none, Bool.false_eq_true, if_false] at hrun
          refine OpOk.val hN hS (x := .slice (if n = l' then some ⟨p.rb, p.ro + q, none⟩ else some (Addr.add ⟨p.rb, p.ro + q, none⟩ (l' * i.size))) (h'' - l') (n - l')) ?_ ?_
          · unfold execOp
            simp only [Option.map_none] at hrun
            simp [ho, hx', Instr.sliceAt, run_underlying hu, Instr.sureAddr, hrun, Go.sizeOf, typeInfo, hi']
            split <;> rfl
          · refine ⟨p, if n = l' then p.ro + q else p.ro + q + l' * i.size, n - l', hβ, ?_, by omega, by omega, ?_, .inl (by omega)⟩
            · split <;> simp [Addr.add_mid]
            · intro hne
              rw [if_neg (by omega), hs]
              omega
      · cases h7
    · cases h7
  · cases h

/-! ### What is built -/
theorem over_fold_get : ∀ (l : List Value) (k off : Nat) (cells : Array Value), off + k + l.length ≤ cells.size → ∀ j,
    (((l.zipIdx k).foldl (fun (cs : Array Value) (p : Value × Nat) => cs.setIfInBounds (off + p.2) p.1) cells)).toList[j]? = if j < off + k then cells.toList[j]? else if j < off + k + l.length then l[j - (off + k)]? else cells.toList[j]?
  | [], k, off, cells, _, j => by simp; intro h1 h2; omega
  | x :: l, k, off, cells, h, j => by
    simp only [List.length_cons] at h
    have hlt : off + k < cells.toList.length := by simp; omega
    rw [List.zipIdx_cons, List.foldl_cons, over_fold_get l (k + 1) off _ (by simp; omega) j]
    simp only [Array.toList_setIfInBounds, List.length_cons]
    rcases Nat.lt_trichotomy j (off + k) with h1 | h1 | h1
    · rw [if_pos (by omega), if_pos h1, List.getElem?_set_ne (by omega)]
    · subst h1
      rw [if_pos (by omega), if_neg (by omega), if_pos (by omega), List.getElem?_set_self hlt]
      simp
    · by_cases h2 : j < off + k + (l.length + 1)
      · rw [if_neg (by omega), if_pos (by omega), if_neg (by omega), if_pos h2, show j - (off + k) = (j - (off + (k + 1))) + 1 by omega, List.getElem?_cons_succ]
      · rw [if_neg (by omega), if_neg (by omega), if_neg (by omega), if_neg h2, List.getElem?_set_ne (by omega)]

theorem over_fold (l : List Value) (k off : Nat) (cells : Array Value) (h : off + k + l.length ≤ cells.size) :
    (((l.zipIdx k).foldl (fun (cs : Array Value) (p : Value × Nat) => cs.setIfInBounds (off + p.2) p.1) cells)).toList = cells.toList.take (off + k) ++ (l ++ cells.toList.drop (off + k + l.length)) := by
  apply List.ext_getElem?
  intro j
  rw [over_fold_get l k off cells h j]
  have e0 : (cells.toList.take (off + k)).length = off + k := by simp; omega
  by_cases h1 : j < off + k
  · rw [if_pos h1, List.getElem?_append_left (by omega), List.getElem?_take, if_pos h1]
  · rw [if_neg h1, List.getElem?_append_right (by omega), e0]
    by_cases h2 : j < off + k + l.length
    · rw [if_pos h2, List.getElem?_append_left (by omega)]
    · rw [if_neg h2, List.getElem?_append_right (by omega), List.getElem?_drop, show off + k + l.length + (j - (off + k) - l.length) = j by omega]

theorem fill_ok {place : Nat → Option (Nat × Nat)} : ∀ {vs : List (Nat × V)} {cs ds : List C} {arr : Array Value} {ps : List (Nat × Value)}, fillC place cs vs = some ds → All2 (CRel β μ) cs arr.toList →
    All2 (fun (p : Nat × V) (q : Nat × Value) => p.1 = q.1 ∧ VRel β μ p.2 q.2) vs ps → ∃ arr', Instr.fill place arr ps = some arr' ∧ All2 (CRel β μ) ds arr'.toList
  | [], cs, ds, arr, [], h, hc, _ => by
    simp only [fillC, Option.some.injEq] at h
    subst h
    exact ⟨arr, rfl, hc⟩
  | (i, v) :: vs, cs, ds, arr, (j, x) :: ps, h, hc, hp => by
    obtain ⟨⟨hij, hv⟩, hps⟩ := hp
    simp only at hij hv
    subst hij
    simp only [fillC] at h
    split at h
    · rename_i off size xs hpl hcs
      split at h
      · rename_i hck
        simp only [Bool.and_eq_true, decide_eq_true_eq] at hck
        obtain ⟨hsz, hok⟩ := hck
        simp only [Option.bind_eq_some_iff] at h
        obtain ⟨ds', hw, h'⟩ := h
        obtain ⟨hle, rfl⟩ := wr_some hw
        have hxs := vcells_ok hv hcs hok
        have hl1 := hxs.length
        have hl2 := hc.length
        simp only [Array.length_toList] at hl1 hl2
        have hover := over_fold x.cells.toList 0 off arr (by simp; omega)
        simp only [Nat.add_zero] at hover
        have hfold : (Array.foldl (fun (cs : Array Value) (p : Value × Nat) => cs.setIfInBounds (off + p.2) p.1) arr x.cells.zipIdx) = ((x.cells.toList.zipIdx 0).foldl (fun (cs : Array Value) (p : Value × Nat) => cs.setIfInBounds (off + p.2) p.1) arr) := by
          rw [← Array.foldl_toList]; simp
        obtain ⟨arr', hf, hr⟩ := fill_ok (arr := (x.cells.toList.zipIdx 0).foldl (fun (cs : Array Value) (p : Value × Nat) => cs.setIfInBounds (off + p.2) p.1) arr) (ps := ps) h' (by rw [hover]; exact all2_over hc hxs) hps
        refine ⟨arr', ?_, hr⟩
        simp only [Instr.fill, hpl]
        rw [if_neg (by simp; omega)]
        rw [← hf]
        congr 1
      · cases h
    · cases h
  | [], _, _, _, _ :: _, _, _, hp => hp.elim
  | _ :: _, _, _, _, [], _, _, hp => hp.elim

theorem places_ok (hT : TtOk P X) : ∀ {fs : List Field} {l : List (Nat × Nat)}, placesL X fs = some l → fs.mapM (fun f => (P.info? f.type).map fun i => (f.offset, i.size)) = some l
  | [], l, h => by simp only [placesL, Option.some.injEq] at h; subst h; rfl
  | f :: fs, l, h => by
    simp only [placesL] at h
    split at h
    · rename_i ti l' h1 h2
      simp only [Option.some.injEq] at h
      subst h
      obtain ⟨i, hi, hs, _⟩ := tt_info hT h1
      simp [List.mapM_cons, hi, places_ok hT h2, hs]
    · cases h

theorem op_build (hT : TtOk P X) (hN : N ≤ N') (hS : SRel N β μ nt σ a w) {t : TypeId} {ps : Array (Nat × Operand)} (ho : o.op = .build t ps) (h : op P X fi nm o σ = some (v, σ')) : OpOk P fi N' nm β μ nt σ a w o v σ' := by
  simp only [op, ho] at h
  obtain ⟨ti, h1, h2⟩ := onTI_some h
  obtain ⟨i, hi, hs, hb, hz, hu⟩ := tt_info hT h1
  split at h2
  case h_2 => cases h2
  rename_i z vs hzc hvs
  simp only [zeroC, Option.map_eq_some_iff] at hzc
  obtain ⟨zv, hzv, rfl⟩ := hzc
  have hparts := evParts_ok hS hvs
  have hmap : (ps.map fun p => (p.1, a.eval p.2)).toList = ps.toList.map fun p => (p.1, a.eval p.2) := by simp
  suffices hh : ∃ ds arr', v = .agg ds ∧ σ' = σ ∧ P.built t (ps.map fun p => (p.1, a.eval p.2)).toList = some arr' ∧ All2 (CRel β μ) ds arr'.toList by
    obtain ⟨ds, arr', rfl, rfl, hbt, hall⟩ := hh
    refine OpOk.val hN hS (x := .agg arr') ?_ ⟨arr', rfl, hall⟩
    have hrb := run_build (P := P) w t (ps.map fun p => (p.1, a.eval p.2)) arr' hbt
    unfold execOp
    simp only [ho, Sem.run_bind]
    rw [show (ps.map fun (x : Nat × Operand) => match x with | (i, x) => (i, a.eval x)) = ps.map fun p => (p.1, a.eval p.2) from rfl, hrb]
    rfl
  split at h2
  · rename_i fs hd
    rw [hd] at hu
    split at h2
    case h_2 => cases h2
    rename_i pl hpl
    simp only [Option.map_eq_some_iff, Prod.mk.injEq] at h2
    obtain ⟨ds, hf, rfl, rfl⟩ := h2
    obtain ⟨arr', hf', hr⟩ := fill_ok (arr := zv.cells) hf (all2_lits _) hparts
    refine ⟨ds, arr', rfl, rfl, ?_, hr⟩
    unfold Program.built
    simp only [hi, hu, hz, hzv, places_ok hT hpl]
    rw [hmap, ← hf']
    congr 1
    funext k
    simp
  · rename_i n e hd
    split at h2
    case h_2 => cases h2
    rename_i et het
    have he : X.tt e = some et := by
      unfold elemTI at het
      rw [h1] at het
      simp only [hd] at het
      exact het
    obtain ⟨ie, hie, hse, _⟩ := tt_info hT he
    rw [hd] at hu
    simp only [Option.map_eq_some_iff, Prod.mk.injEq] at h2
    obtain ⟨ds, hf, rfl, rfl⟩ := h2
    obtain ⟨arr', hf', hr⟩ := fill_ok (arr := zv.cells) hf (all2_lits _) hparts
    refine ⟨ds, arr', rfl, rfl, ?_, hr⟩
    unfold Program.built
    simp only [hi, hu, hz, hzv, hie, hse]
    rw [hmap, ← hf']
  · cases h2
end ops
end E
end Go.Proofs.Ytnfehccnofhmnaa
