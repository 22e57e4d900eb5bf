/-
  An abstract machine of this place's own: slices, structs and rows that are built: in the model as here. No condition.
-/
import Derived.Test.YtnfehccnofhmnaaMN1
import Derived.LoopN
set_option linter.all false
namespace Go.Proofs.Ytnfehccnofhmnaa
open Go.RowKit
namespace E
section ops
variable {P : Program} {X : Ctx} {fi : Fi} {N N' nm : Nat} {β : Pls} {μ : Fms} {nt : Nat} {σ σ' : St} {a : Act} {w : World} {o : Oper} {v : V}

theorem optIdx_ok (hS : SRel N β μ nt σ a w) {x : Option Operand} {l : Option Int} (h : optIdx σ x = some l) :
    (x = none ∧ l = none) ∨ ∃ y k i, x = some y ∧ l = some i ∧ a.eval y = .int k i := by
  unfold optIdx at h
  split at h
  · simp only [Option.some.injEq] at h; exact .inl ⟨rfl, h.symm⟩
  · rename_i y
    split at h
    · rename_i u hu
      simp only [Option.map_eq_some_iff] at h
      obtain ⟨i, hi, rfl⟩ := h
      obtain ⟨k, hk⟩ := idx_ok hi (ev_ok hS hu)
      exact .inr ⟨y, k, i, rfl, rfl, hk⟩
    · cases h

theorem run_sliceBound {u : Value} {k : IntKind} {i : Int} {y : Nat} {c : BoundsCode} (hu : u = .int k i) (h0 : 0 ≤ i) (h1 : i ≤ y) : (Instr.sliceBound u y c).run P w = .ok i.toNat w := by
  subst hu
  simp [Instr.sliceBound, asIntOf, h0, h1]

theorem run_bounds (hS : SRel N β μ nt σ a w) {lo hi mx : Option Operand} {l h m : Option Int} (h1 : optIdx σ lo = some l) (h2 : optIdx σ hi = some h) (h3 : optIdx σ mx = some m)
    {len cap rc : Nat} {l' h' m' : Nat} (hb : bounds len cap l h m = some (l', h', m')) (hc : cap ≤ rc) (b : Bool) :
    (Instr.sliceBounds b len rc (lo.map a.eval) (hi.map a.eval) (mx.map a.eval)).run P w = .ok (l', h', if mx.isSome then m' else rc) w ∧ l' ≤ h' ∧ h' ≤ m' ∧ m' ≤ cap ∧ (mx = none → m' = cap) := by
  simp only [bounds] at hb
  split at hb
  case isFalse => cases hb
  rename_i hcond
  simp only [Bool.and_eq_true, decide_eq_true_eq, Bool.or_eq_true] at hcond
  obtain ⟨⟨⟨⟨g0, g1⟩, g2⟩, g3⟩, g4⟩ := hcond
  simp only [Option.some.injEq, Prod.mk.injEq] at hb
  obtain ⟨rfl, rfl, rfl⟩ := hb
  rcases optIdx_ok hS h1 with ⟨rfl, rfl⟩ | ⟨y1, k1, i1, rfl, rfl, e1⟩ <;> rcases optIdx_ok hS h2 with ⟨rfl, rfl⟩ | ⟨y2, k2, i2, rfl, rfl, e2⟩ <;> rcases optIdx_ok hS h3 with ⟨rfl, rfl⟩ | ⟨y3, k3, i3, rfl, rfl, e3⟩ <;>
    simp only [Option.getD_none, Option.getD_some, Option.isNone_none, Option.isSome_none, Option.isNone_some, Option.isSome_some, Bool.false_eq_true, or_false, false_or, or_true, true_or] at g0 g1 g2 g3 g4 <;>
    (refine ⟨?_, ?_, ?_, ?_, ?_⟩) <;> (try simp only [Option.getD_none, Option.getD_some]) <;> (try omega) <;> (try simp) <;>
    (try unfold Instr.sliceBounds) <;> (try simp only [Option.map_none, Option.map_some]) <;> (try simp only [Sem.run_bind, Sem.run_pure, Result.andThen_ok])
  · rw [run_sliceBound e2 (by omega) (by omega)]; rfl
  · rw [run_sliceBound e3 (by omega) (by omega)]; simp only [Result.andThen_ok]; rw [run_sliceBound e2 (by omega) (by omega)]; rfl
  · rw [run_sliceBound e1 (by omega) (by omega)]; rfl
  · rw [run_sliceBound e2 (by omega) (by omega)]; simp only [Result.andThen_ok]; rw [run_sliceBound e1 (by omega) (by omega)]; rfl
  · rw [run_sliceBound e3 (by omega) (by omega)]; simp only [Result.andThen_ok]; rw [run_sliceBound e2 (by omega) (by omega)]; simp only [Result.andThen_ok]; rw [run_sliceBound e1 (by omega) (by omega)]; rfl

theorem op_slice (hT : TtOk P X) (hN : N ≤ N') (hS : SRel N β μ nt σ a w) {t : TypeId} {x : Operand} {lo hi mx : Option Operand} (ho : o.op = .slice t x lo hi mx) (h : op P X fi nm o σ = some (v, σ')) : OpOk P fi N' nm β μ nt σ a w o v σ' := by
  simp only [op, ho] at h
  split at h
  case h_2 => cases h
  rename_i l h' m h1 h2 h3
  split at h
  · exact op_pure hN hS (fun _ _ => by rw [ho]; exact fun h => by cases h) h
  · rename_i c _ hev
    have hx := ev_ok hS hev
    simp only [Option.map_eq_some_iff, Prod.mk.injEq] at h
    obtain ⟨c', h7, rfl, rfl⟩ := h
    unfold sliceE at h7
    split at h7
    case h_2 => cases h7
    rename_i ti hti
    split at h7
    · rename_i e hd
      split at h7
      · rename_i et b q len cap het _
        obtain ⟨i, hi', hs, hb, hz, hue, hu⟩ := elem_info hT hti (.inl hd) het
        rw [hd] at hu
        split at h7
        case h_2 => cases h7
        rename_i l' h'' m' hbd
        split at h7
        case isFalse => cases h7
        rename_i hszok
        simp only [Option.some.injEq] at h7
        subst h7
        obtain ⟨p, k, rc, hβ, hx', hlc, hcr, hk, hgrow⟩ := hx
        obtain ⟨hrun, b1, b2, b3, b4⟩ := run_bounds (P := P) hS h1 h2 h3 hbd hcr true
        refine OpOk.val hN hS (x := .slice (if (if mx.isSome then m' else rc) = l' then some ⟨p.rb, k, none⟩ else some (Addr.add ⟨p.rb, k, none⟩ (l' * i.size))) (h'' - l') ((if mx.isSome then m' else rc) - l')) ?_ ?_
        · unfold execOp
          simp [ho, hx', Instr.sliceAt, run_underlying hu, Instr.slice, hrun, Go.sizeOf, typeInfo, hi']
        · have hsz : l' = 0 ∨ p.sz = et.size ∨ p.sz = 0 := by
            simp only [szOk, Bool.or_eq_true] at hszok
            rcases hszok with h0 | h0
            · exact .inl (Nat.eq_of_beq_eq_true h0)
            · split at h0
              · rename_i rw' sz' cs' hblk
                obtain ⟨p', g1, g2⟩ := hS.heap.blk b _ hblk
                rw [hβ, Option.some.injEq] at g1
                subst g1
                have hps : p.sz = sz' := g2.1
                simp only [Bool.or_eq_true] at h0
                rcases h0 with h0 | h0
                · exact .inr (.inl (by rw [hps]; exact Nat.eq_of_beq_eq_true h0))
                · exact .inr (.inr (by rw [hps]; exact Nat.eq_of_beq_eq_true h0))
              · cases h0
          refine ⟨p, if (if mx.isSome then m' else rc) = l' then k else k + l' * i.size, (if mx.isSome then m' else rc) - l', hβ, ?_, by omega, ?_, ?_, ?_⟩
          · by_cases hq : (if mx.isSome = true then m' else rc) = l'
            · rw [if_pos hq, if_pos hq]
            · rw [if_neg hq, if_neg hq, Addr.add_mid]
          · split <;> omega
          · intro hne
            rw [if_neg (by omega), hs]
            have := hk (by split at hne <;> omega)
            omega
          · cases hmx : mx with
            | some _ => left; simp
            | none =>
              rw [hmx] at b4
              have hm := b4 rfl
              simp only [Option.isSome_none, Bool.false_eq_true, if_false]
              rcases hgrow with hg | ⟨g0, g1, g2⟩
              · left; omega
              · right
                refine ⟨g0, ?_, ?_⟩
                · rcases hsz with h0 | h0 | h0
                  · subst h0; simp; rw [hm]; exact g1
                  · rw [hm, h0, Nat.add_assoc, ← Nat.add_mul, show l' + (cap - l') = cap by omega, ← h0]; exact g1
                  · omega
                · rcases hsz with h0 | h0 | h0
                  · subst h0; simpa using g2
                  · have : p.ro + (q + l' * et.size) + (rc - l') * p.sz = p.ro + q + rc * p.sz := by
                      rw [h0, ← Nat.add_assoc, Nat.add_assoc (p.ro + q), ← Nat.add_mul, show l' + (rc - l') = rc by omega]
                    omega
                  · omega
      · rename_i et het _
        obtain ⟨i, hi', hs, hb, hz, hue, hu⟩ := elem_info hT hti (.inl hd) het
        rw [hd] at hu
        split at h7
        case h_2 => cases h7
        rename_i q hbd
        obtain ⟨l', h'', m'⟩ := q
        simp only [Option.some.injEq] at h7
        subst h7
        have hx' : a.eval x = .slice none 0 0 := hx
        obtain ⟨hrun, b1, b2, b3, b4⟩ := run_bounds (P := P) hS h1 h2 h3 hbd (Nat.le_refl _) true
        have hl0 : l' = 0 := by omega
        have hh0 : h'' = 0 := by omega
        have hm0 : m' = 0 := by omega
        subst hl0; subst hh0; subst hm0
        refine OpOk.val hN hS (x := .slice none 0 0) ?_ rfl
        unfold execOp
        simp [ho, hx', Instr.sliceAt, run_underlying hu, Instr.slice, hrun, Go.sizeOf, typeInfo, hi']
      · cases h7
    · rename_i n e hd
      split at h7
      · rename_i et b q het _
        obtain ⟨i, hi', hs, hb, hz, hue, hu⟩ := elem_info hT hti (.inr ⟨n, hd⟩) het
        rw [hd] at hu
        split at h7
        case h_2 => cases h7
        rename_i l' h'' m' hbd
        split at h7
        · cases h7
        · rename_i hmx
          simp only [Option.some.injEq] at h7
          subst h7
          have hmn : mx = none := by
            rcases optIdx_ok hS h3 with ⟨e1, _⟩ | ⟨_, _, _, _, e2, _⟩
            · exact e1
            · rw [e2] at hmx; simp at hmx
          obtain ⟨p, hβ, hx'⟩ := hx
          obtain ⟨hrun, b1, b2, b3, b4⟩ := run_bounds (P := P) hS h1 h2 h3 hbd (Nat.le_refl _) false
          have hm := b4 hmn
          subst hmn
          simp only [Option.isSome_none, Bool.false_eq_true, if_false] at hrun
          refine OpOk.val hN hS (x := .slice (if n = l' then some ⟨p.rb, p.ro + q, none⟩ else some (Addr.add ⟨p.rb, p.ro + q, none⟩ (l' * i.size))) (h'' - l') (n - l')) ?_ ?_
          · unfold execOp
            simp only [Option.map_none] at hrun
            simp [ho, hx', Instr.sliceAt, run_underlying hu, Instr.sureAddr, hrun, Go.sizeOf, typeInfo, hi']
            split <;> rfl
          · refine ⟨p, if n = l' then p.ro + q else p.ro + q + l' * i.size, n - l', hβ, ?_, by omega, by omega, ?_, .inl (by omega)⟩
            · split <;> simp [Addr.add_mid]
            · intro hne
              rw [if_neg (by omega), hs]
              omega
      · cases h7
    · cases h7
  · cases h

/-! ### What is built -/
theorem over_fold_get : ∀ (l : List Value) (k off : Nat) (cells : Array Value), off + k + l.length ≤ cells.size → ∀ j,
    (((l.zipIdx k).foldl (fun (cs : Array Value) (p : Value × Nat) => cs.setIfInBounds (off + p.2) p.1) cells)).toList[j]? = if j < off + k then cells.toList[j]? else if j < off + k + l.length then l[j - (off + k)]? else cells.toList[j]?
  | [], k, off, cells, _, j => by simp; intro h1 h2; omega
  | x :: l, k, off, cells, h, j => by
    simp only [List.length_cons] at h
    have hlt : off + k < cells.toList.length := by simp; omega
    rw [List.zipIdx_cons, List.foldl_cons, over_fold_get l (k + 1) off _ (by simp; omega) j]
    simp only [Array.toList_setIfInBounds, List.length_cons]
    rcases Nat.lt_trichotomy j (off + k) with h1 | h1 | h1
    · rw [if_pos (by omega), if_pos h1, List.getElem?_set_ne (by omega)]
    · subst h1
      rw [if_pos (by omega), if_neg (by omega), if_pos (by omega), List.getElem?_set_self hlt]
      simp
    · by_cases h2 : j < off + k + (l.length + 1)
      · rw [if_neg (by omega), if_pos (by omega), if_neg (by omega), if_pos h2, show j - (off + k) = (j - (off + (k + 1))) + 1 by omega, List.getElem?_cons_succ]
      · rw [if_neg (by omega), if_neg (by omega), if_neg (by omega), if_neg h2, List.getElem?_set_ne (by omega)]

theorem over_fold (l : List Value) (k off : Nat) (cells : Array Value) (h : off + k + l.length ≤ cells.size) :
    (((l.zipIdx k).foldl (fun (cs : Array Value) (p : Value × Nat) => cs.setIfInBounds (off + p.2) p.1) cells)).toList = cells.toList.take (off + k) ++ (l ++ cells.toList.drop (off + k + l.length)) := by
  apply List.ext_getElem?
  intro j
  rw [over_fold_get l k off cells h j]
  have e0 : (cells.toList.take (off + k)).length = off + k := by simp; omega
  by_cases h1 : j < off + k
  · rw [if_pos h1, List.getElem?_append_left (by omega), List.getElem?_take, if_pos h1]
  · rw [if_neg h1, List.getElem?_append_right (by omega), e0]
    by_cases h2 : j < off + k + l.length
    · rw [if_pos h2, List.getElem?_append_left (by omega)]
    · rw [if_neg h2, List.getElem?_append_right (by omega), List.getElem?_drop, show off + k + l.length + (j - (off + k) - l.length) = j by omega]

theorem fill_ok {place : Nat → Option (Nat × Nat)} : ∀ {vs : List (Nat × V)} {cs ds : List C} {arr : Array Value} {ps : List (Nat × Value)}, fillC place cs vs = some ds → All2 (CRel β μ) cs arr.toList →
    All2 (fun (p : Nat × V) (q : Nat × Value) => p.1 = q.1 ∧ VRel β μ p.2 q.2) vs ps → ∃ arr', Instr.fill place arr ps = some arr' ∧ All2 (CRel β μ) ds arr'.toList
  | [], cs, ds, arr, [], h, hc, _ => by
    simp only [fillC, Option.some.injEq] at h
    subst h
    exact ⟨arr, rfl, hc⟩
  | (i, v) :: vs, cs, ds, arr, (j, x) :: ps, h, hc, hp => by
    obtain ⟨⟨hij, hv⟩, hps⟩ := hp
    simp only at hij hv
    subst hij
    simp only [fillC] at h
    split at h
    · rename_i off size xs hpl hcs
      split at h
      · rename_i hck
        simp only [Bool.and_eq_true, decide_eq_true_eq] at hck
        obtain ⟨hsz, hok⟩ := hck
        simp only [Option.bind_eq_some_iff] at h
        obtain ⟨ds', hw, h'⟩ := h
        obtain ⟨hle, rfl⟩ := wr_some hw
        have hxs := vcells_ok hv hcs hok
        have hl1 := hxs.length
        have hl2 := hc.length
        simp only [Array.length_toList] at hl1 hl2
        have hover := over_fold x.cells.toList 0 off arr (by simp; omega)
        simp only [Nat.add_zero] at hover
        have hfold : (Array.foldl (fun (cs : Array Value) (p : Value × Nat) => cs.setIfInBounds (off + p.2) p.1) arr x.cells.zipIdx) = ((x.cells.toList.zipIdx 0).foldl (fun (cs : Array Value) (p : Value × Nat) => cs.setIfInBounds (off + p.2) p.1) arr) := by
          rw [← Array.foldl_toList]; simp
        obtain ⟨arr', hf, hr⟩ := fill_ok (arr := (x.cells.toList.zipIdx 0).foldl (fun (cs : Array Value) (p : Value × Nat) => cs.setIfInBounds (off + p.2) p.1) arr) (ps := ps) h' (by rw [hover]; exact all2_over hc hxs) hps
        refine ⟨arr', ?_, hr⟩
        simp only [Instr.fill, hpl]
        rw [if_neg (by simp; omega)]
        rw [← hf]
        congr 1
      · cases h
    · cases h
  | [], _, _, _, _ :: _, _, _, hp => hp.elim
  | _ :: _, _, _, _, [], _, _, hp => hp.elim

theorem places_ok (hT : TtOk P X) : ∀ {fs : List Field} {l : List (Nat × Nat)}, placesL X fs = some l → fs.mapM (fun f => (P.info? f.type).map fun i => (f.offset, i.size)) = some l
  | [], l, h => by simp only [placesL, Option.some.injEq] at h; subst h; rfl
  | f :: fs, l, h => by
    simp only [placesL] at h
    split at h
    · rename_i ti l' h1 h2
      simp only [Option.some.injEq] at h
      subst h
      obtain ⟨i, hi, hs, _⟩ := tt_info hT h1
      simp [List.mapM_cons, hi, places_ok hT h2, hs]
    · cases h

theorem op_build (hT : TtOk P X) (hN : N ≤ N') (hS : SRel N β μ nt σ a w) {t : TypeId} {ps : Array (Nat × Operand)} (ho : o.op = .build t ps) (h : op P X fi nm o σ = some (v, σ')) : OpOk P fi N' nm β μ nt σ a w o v σ' := by
  simp only [op, ho] at h
  obtain ⟨ti, h1, h2⟩ := onTI_some h
  obtain ⟨i, hi, hs, hb, hz, hu⟩ := tt_info hT h1
  split at h2
  case h_2 => cases h2
  rename_i z vs hzc hvs
  simp only [zeroC, Option.map_eq_some_iff] at hzc
  obtain ⟨zv, hzv, rfl⟩ := hzc
  have hparts := evParts_ok hS hvs
  have hmap : (ps.map fun p => (p.1, a.eval p.2)).toList = ps.toList.map fun p => (p.1, a.eval p.2) := by simp
  suffices hh : ∃ ds arr', v = .agg ds ∧ σ' = σ ∧ P.built t (ps.map fun p => (p.1, a.eval p.2)).toList = some arr' ∧ All2 (CRel β μ) ds arr'.toList by
    obtain ⟨ds, arr', rfl, rfl, hbt, hall⟩ := hh
    refine OpOk.val hN hS (x := .agg arr') ?_ ⟨arr', rfl, hall⟩
    have hrb := run_build (P := P) w t (ps.map fun p => (p.1, a.eval p.2)) arr' hbt
    unfold execOp
    simp only [ho, Sem.run_bind]
    rw [show (ps.map fun (x : Nat × Operand) => match x with | (i, x) => (i, a.eval x)) = ps.map fun p => (p.1, a.eval p.2) from rfl, hrb]
    rfl
  split at h2
  · rename_i fs hd
    rw [hd] at hu
    split at h2
    case h_2 => cases h2
    rename_i pl hpl
    simp only [Option.map_eq_some_iff, Prod.mk.injEq] at h2
    obtain ⟨ds, hf, rfl, rfl⟩ := h2
    obtain ⟨arr', hf', hr⟩ := fill_ok (arr := zv.cells) hf (all2_lits _) hparts
    refine ⟨ds, arr', rfl, rfl, ?_, hr⟩
    unfold Program.built
    simp only [hi, hu, hz, hzv, places_ok hT hpl]
    rw [hmap, ← hf']
    congr 1
    funext k
    simp
  · rename_i n e hd
    split at h2
    case h_2 => cases h2
    rename_i et het
    have he : X.tt e = some et := by
      unfold elemTI at het
      rw [h1] at het
      simp only [hd] at het
      exact het
    obtain ⟨ie, hie, hse, _⟩ := tt_info hT he
    rw [hd] at hu
    simp only [Option.map_eq_some_iff, Prod.mk.injEq] at h2
    obtain ⟨ds, hf, rfl, rfl⟩ := h2
    obtain ⟨arr', hf', hr⟩ := fill_ok (arr := zv.cells) hf (all2_lits _) hparts
    refine ⟨ds, arr', rfl, rfl, ?_, hr⟩
    unfold Program.built
    simp only [hi, hu, hz, hzv, hie, hse]
    rw [hmap, ← hf']
  · cases h2
end ops
end E
end Go.Proofs.Ytnfehccnofhmnaa

/-
  An abstract machine of this place's own: rows that are made, append, len, clear: in the model as here. No condition.
-/
namespace Go.Proofs.Ytnfehccnofhmnaa
open Go.RowKit
namespace E
section ops
variable {P : Program} {X : Ctx} {fi : Fi} {N N' nm : Nat} {β : Pls} {μ : Fms} {nt : Nat} {σ σ' : St} {a : Act} {w : World} {o : Oper} {v : V}

/-- A list, n times. -/
def repL {α : Type} (l : List α) : Nat → List α
  | 0 => []
  | n + 1 => l ++ repL l n

theorem repL_get {α : Type} {l : List α} (hl : 0 < l.length) : ∀ (n i : Nat), (repL l n)[i]? = if i < n * l.length then l[i % l.length]? else none
  | 0, i => by simp [repL]
  | n + 1, i => by
    rw [repL]
    by_cases h : i < l.length
    · rw [List.getElem?_append_left h, if_pos (by rw [Nat.succ_mul]; omega), Nat.mod_eq_of_lt h]
    · rw [List.getElem?_append_right (by omega), repL_get hl n, Nat.succ_mul]
      by_cases h2 : i - l.length < n * l.length
      · rw [if_pos h2, if_pos (by omega)]
        congr 1
        conv => rhs; rw [show i = i - l.length + l.length by omega, Nat.add_mod_right]
      · rw [if_neg h2, if_neg (by omega)]

theorem zerosC_rep (l : List Value) : ∀ n, zerosC (l.map .lit) n = (repL l n).map .lit
  | 0 => rfl
  | n + 1 => by simp [zerosC, repL, zerosC_rep l n]

theorem range_rep (z : Array Value) (hz : 0 < z.size) (n : Nat) : ((Array.range (n * z.size)).map (z[· % z.size]!)).toList = repL z.toList n := by
  apply List.ext_getElem?
  intro i
  rw [repL_get (by simpa using hz)]
  simp only [Array.length_toList, Array.getElem?_toList, Array.getElem?_map, Array.getElem?_range]
  split
  · have hlt : i % z.size < z.size := Nat.mod_lt _ hz
    simp [hlt]
  · rfl

theorem zeros_ok (z : Value) (hz : 0 < z.cells.size) (n : Nat) : All2 (CRel β μ) (zerosC (z.cells.toList.map .lit) n) ((Array.range (n * z.cells.size)).map (z.cells[· % z.cells.size]!)).toList := by
  rw [range_rep z.cells hz, zerosC_rep]
  exact all2_lits _

/-- A row made. -/
theorem newRow_ok (hmk : makes fi o = true) (hN : N ≤ N') (hnm : nm < N') (hβ : β nm = none) (hS : SRel N β μ nt σ a w) {cs : List C} {arr : Array Value} {e : TypeId} {sz n c : Nat}
    (hr : (execOp a.eval o).run P w = .ok (.value (.slice (some ⟨w.heap.size, 0, none⟩) n c)) (w.alloc (.cells arr e))) (hc : All2 (CRel β μ) cs arr.toList) (hnc : n ≤ c)
    (h : newRowH σ nm sz cs = some σ') : OpOk P fi N' nm β μ nt σ a w o (.one (.sl nm 0 n c)) σ' := by
  simp only [newRowH] at h
  split at h
  case isFalse => cases h
  rename_i hok
  simp only [Option.some.injEq] at h
  subst h
  have hall := all2_noF (μ' := noF) hok hc
  have hlen : arr.size = cs.length := by have := hall.length; simp at this; omega
  let p : Pl := ⟨w.heap.size, 0, arr.size, cs.length, sz⟩
  have hB : BRel (upd β nm p) p (.row true sz cs) (w.alloc (.cells arr e)) :=
    ⟨rfl, rfl, arr, e, (0, 0), arr.toList, alloc_new w _, fun j x hj => by simpa [p] using hj, hall.mono fun _ _ _ => CRel.up (upd_ext p hβ) fun _ _ _ h => h, rfl, by show 0 + cs.length ≤ arr.size; omega, fun _ => rfl⟩
  have hS' := hS.make (N' := N') (w' := w.alloc (.cells arr e)) hN hnm hβ (p := p) (x1 := .row true sz cs) (fun r hr _ => alloc_old w _ r hr)
    (fun b x q hb hq => by obtain ⟨q', g1, g2⟩ := hS.heap.blk b x hb; rw [hq, Option.some.injEq] at g1; subst g1; exact Nat.ne_of_lt g2.lt)
    (fun u ds hu he => by obtain ⟨r, g1, g2⟩ := hS.box u ds hu; rw [he, Option.some.injEq] at g1; subst g1; exact absurd g2.lt (Nat.lt_irrefl _)) hB
  exact ⟨_, _, _, upd β nm p, μ, hr, .inl rfl, ⟨p, 0, c, upd_same β nm p, rfl, hnc, Nat.le_refl _, fun _ => rfl, .inl rfl⟩, hS', Step.make (same_alloc w _) hβ (Nat.le_refl _) (fun k hk => alloc_old w _ k hk), fun b hb => upd_other β p (hb.resolve_right (by rw [hmk]; simp)), fun _ _ => rfl, rfl⟩

theorem elemTI_slice {t e : TypeId} {st et : TI} (h1 : X.tt t = some st) (hd : st.desc = .slice e) (h2 : elemTI X t = some et) : X.tt e = some et := by
  unfold elemTI at h2
  rw [h1] at h2
  simp only [hd] at h2
  exact h2

theorem op_buildSlice (hT : TtOk P X) (hN : N ≤ N') (hnm : nm < N') (hβ : β nm = none) (hS : SRel N β μ nt σ a w) {t : TypeId} {n : Nat} {ps : Array (Nat × Operand)} (ho : o.op = .buildSlice t n ps) (h : op P X fi nm o σ = some (v, σ')) : OpOk P fi N' nm β μ nt σ a w o v σ' := by
  simp only [op, ho] at h
  split at h
  case h_2 => cases h
  rename_i et vs st het hvs hst
  split at h
  case h_2 => cases h
  rename_i e z hd hzc
  split at h
  case isFalse => cases h
  rename_i hck
  simp only [Bool.and_eq_true, decide_eq_true_eq] at hck
  obtain ⟨⟨hle, hpos⟩, hzl⟩ := hck
  split at h
  case h_2 => cases h
  rename_i cs hf
  simp only [Option.map_eq_some_iff, Prod.mk.injEq] at h
  obtain ⟨σ1, h7, rfl, rfl⟩ := h
  have he := elemTI_slice hst hd het
  obtain ⟨i, hi, hs, hb, hz, hue, hu⟩ := elem_info hT hst (.inl hd) he
  rw [hd] at hu
  simp only [zeroC, Option.map_eq_some_iff] at hzc
  obtain ⟨zv, hzv, rfl⟩ := hzc
  have hzs : zv.cells.size = i.size := by simp at hzl; omega
  obtain ⟨arr', hf', hr⟩ := fill_ok (arr := (Array.range (n * zv.cells.size)).map (zv.cells[· % zv.cells.size]!)) hf (zeros_ok zv (by omega) n) (evParts_ok hS hvs)
  refine newRow_ok (by simp [makes, ho]) hN hnm hβ hS (arr := arr') (e := e) ?_ hr (Nat.le_refl _) h7
  have hle' : ¬ (16777216 < n * i.size) := by rw [hs]; omega
  rw [hzs] at hf'
  have hparts : (ps.map fun (x : Nat × Operand) => match x with | (i, x) => (i, a.eval x)).toList = ps.toList.map fun p => (p.1, a.eval p.2) := by simp
  by_cases hn : n = 0
  · subst hn
    unfold execOp
    simp only [Nat.zero_mul, Array.range_zero', Array.map_empty] at hf'
    rw [← hs] at hf'
    rw [← hparts] at hf'
    simp [ho, Instr.buildSlice, run_underlying hu, Go.sizeOf, typeInfo, hi, newRow]
    simp at hf'
    simp only [Array.range_zero', Array.map_empty, hf']
    rfl
  · have hne : ¬ (n * i.size = 0) := by
      intro h0
      rcases Nat.mul_eq_zero.1 h0 with h0 | h0 <;> omega
    unfold execOp
    rw [← hs, ← hparts] at hf'
    simp [ho, Instr.buildSlice, run_underlying hu, Go.sizeOf, typeInfo, zeroValue, hi, hz, hzv, newRow, hle', hne, hzs]
    simp at hf'
    rw [hf']
    rfl

theorem op_makeSlice (hT : TtOk P X) (hN : N ≤ N') (hnm : nm < N') (hβ : β nm = none) (hS : SRel N β μ nt σ a w) {t : TypeId} {x y : Operand} (ho : o.op = .makeSlice t x y) (h : op P X fi nm o σ = some (v, σ')) : OpOk P fi N' nm β μ nt σ a w o v σ' := by
  simp only [op, ho] at h
  obtain ⟨u, h3, h4⟩ := onV_some h
  obtain ⟨u', h5, h6⟩ := onV_some h4
  split at h6
  case h_2 => cases h6
  rename_i et st n m het hst
  split at h6
  case h_2 => cases h6
  rename_i e hd
  have hx : a.eval x = .int .i64 n := ev_ok hS h3
  have hy : a.eval y = .int .i64 m := ev_ok hS h5
  unfold makeSliceE at h6
  split at h6
  case h_2 => cases h6
  rename_i z hzc
  split at h6
  case isFalse => cases h6
  rename_i hck
  simp only [Bool.and_eq_true, decide_eq_true_eq] at hck
  obtain ⟨⟨⟨⟨⟨hpos, hzl⟩, h0⟩, hnm'⟩, h63⟩, hby⟩ := hck
  simp only [Option.map_eq_some_iff, Prod.mk.injEq] at h6
  obtain ⟨σ1, h7, rfl, rfl⟩ := h6
  have he := elemTI_slice hst hd het
  obtain ⟨i, hi, hs, hb, hz, hue, hu⟩ := elem_info hT hst (.inl hd) he
  rw [hd] at hu
  simp only [zeroC, Option.map_eq_some_iff] at hzc
  obtain ⟨zv, hzv, rfl⟩ := hzc
  have hzs : zv.cells.size = i.size := by simp at hzl; omega
  have hbytes : (i.bytes : Int) * m ≤ 281474976710656 := by
    have : ((m.toNat * et.bytes : Nat) : Int) ≤ 140737488355328 := by omega
    rw [Int.natCast_mul, Int.toNat_of_nonneg (by omega), ← hb, Int.mul_comm] at this
    omega
  have hrun := run_make (P := P) w t e i zv hu hi (by rw [hz, hzv]) .i64 .i64 n m h0 hnm' hbytes h63
  refine newRow_ok (by simp [makes, ho]) hN hnm hβ hS (arr := madeCells zv.cells (m.toNat * i.size)) (e := e) ?_ (by rw [madeCells, ← hzs]; exact zeros_ok zv (by omega) _) (by omega) h7
  unfold execOp
  simp [ho, hx, hy, hrun]

theorem op_makeMap (hN : N ≤ N') (hnm : nm < N') (hβ : β nm = none) (hS : SRel N β μ nt σ a w) {t : TypeId} (ho : o.op = .makeMap t none) (h : op P X fi nm o σ = some (v, σ')) : OpOk P fi N' nm β μ nt σ a w o v σ' := by
  simp only [op, ho, Option.some.injEq, Prod.mk.injEq] at h
  obtain ⟨rfl, rfl⟩ := h
  let p : Pl := ⟨w.heap.size, 0, 0, 0, 0⟩
  have hB : BRel (upd β nm p) p (.map [] 0) (w.alloc (.map #[] 0)) := ⟨rfl, #[], alloc_new w _, trivial⟩
  have hS' := hS.make (N' := N') (w' := w.alloc (.map #[] 0)) hN hnm hβ (p := p) (x1 := .map [] 0) (fun r hr _ => alloc_old w _ r hr)
    (fun b x q hb hq => by obtain ⟨q', g1, g2⟩ := hS.heap.blk b x hb; rw [hq, Option.some.injEq] at g1; subst g1; exact Nat.ne_of_lt g2.lt)
    (fun u ds hu he => by obtain ⟨r, g1, g2⟩ := hS.box u ds hu; rw [he, Option.some.injEq] at g1; subst g1; exact absurd g2.lt (Nat.lt_irrefl _)) hB
  refine ⟨_, .map (some w.heap.size), _, upd β nm p, μ, ?_, .inl rfl, ⟨p, upd_same β nm p, rfl⟩, hS', Step.make (same_alloc w _) hβ (Nat.le_refl _) (fun k hk => alloc_old w _ k hk), fun b hb => upd_other β p (hb.resolve_right (by simp [makes, ho])), fun _ _ => rfl, rfl⟩
  unfold execOp
  simp [ho, Instr.makeMap]
end ops
end E
end Go.Proofs.Ytnfehccnofhmnaa

/-
  An abstract machine of this place's own: append and len: in the model as here. No condition.
-/
namespace Go.Proofs.Ytnfehccnofhmnaa
open Go.RowKit
namespace E
section ops
variable {P : Program} {X : Ctx} {fi : Fi} {N N' nm : Nat} {β : Pls} {μ : Fms} {nt : Nat} {σ σ' : St} {a : Act} {w : World} {o : Oper} {v : V}

/-- What an append finds in its source. -/
theorem src_ok (hS : SRel N β μ nt σ a w) {sz m : Nat} {x : C} {u : Value} {news : List C} (h1 : sliceCells σ sz x = some news) (h2 : lenC x = some m) (hl : news.length = m * sz) (hx : CRel β μ x u) (hm : 0 < m) (hsz : 0 < sz) :
    ∃ ad c ys, u = .slice (some ad) m c ∧ ys.length = m * sz ∧ (∀ j y, ys[j]? = some y → w.cell? (ad.add j) = some y) ∧ All2 (CRel β noF) news ys := by
  unfold sliceCells at h1
  split at h1
  · simp only [Option.some.injEq] at h1
    subst h1
    have : 0 < m * sz := Nat.mul_pos hm hsz
    simp at hl
    omega
  · rename_i b k len cap
    simp only [lenC, Option.some.injEq] at h2
    subst h2
    split at h1
    · rename_i rw' sz' cs hb
      obtain ⟨hle, rfl⟩ := rd_some h1
      obtain ⟨p, k', rc, hβ, rfl, hlc, hcr, hk, _⟩ := hx
      obtain ⟨p', g1, hps, hn, arr, el, fr, xs, hh, hwin, hall, hext, hfit, hfr⟩ := hS.heap.blk b _ hb
      rw [hβ, Option.some.injEq] at g1
      subst g1
      have hk' := hk (by omega)
      subst hk'
      have hxl := hall.length
      refine ⟨_, rc, (xs.drop k).take (len * sz), rfl, ?_, fun j y hj => ?_, (hall.drop k).take _⟩
      · simp only [List.length_take, List.length_drop]
        omega
      · rw [Addr.add_mid, cell_row hh]
        rw [List.getElem?_take] at hj
        split at hj
        · have := hwin (k + j) y (by simpa [List.getElem?_drop] using hj)
          simpa [Nat.add_assoc] using this
        · cases hj
    · cases h1
  · cases h1

theorem run_append_none (t ty e : TypeId) (i : TypeInfo) (ht : P.underlying t = some (.slice e)) (hi : P.info? e = some i) {s x : Value} {base : Option Addr} {n c : Nat} (hs : s = .slice base n c) (hnc : n ≤ c)
    (hx : (∃ c', x = .slice none 0 c') ∨ ∃ ad c', x = .slice (some ad) 0 c') : (Builtin.append_ #[t, t] ty #[s, x]).run P w = .ok s w := by
  subst hs
  rcases hx with ⟨c', rfl⟩ | ⟨ad, c', rfl⟩ <;> cases base <;>
    simp [Builtin.append_, run_underlying ht, Go.sizeOf, typeInfo, hi, Builtin.lenOf, hnc, Builtin.firstCells, loadCells, loadCellsFrom, storeCells]

theorem run_append_in (t ty e : TypeId) (i : TypeInfo) (ht : P.underlying t = some (.slice e)) (hi : P.info? e = some i)
    (g k sLen sCap : Nat) (el : TypeId) (cur : Array Value) (hg : w.heap[g]? = some (.cells cur el (0, 0)))
    (ad : Addr) (m c : Nat) (news : List Value) (hl : news.length = m * i.size) (hnews : ∀ j u, news[j]? = some u → w.cell? (ad.add j) = some u) (h1 : ∀ u ∈ news, u.oneCell' = true)
    (hroom : sLen + m ≤ sCap) (hfit : k + sLen * i.size + news.length ≤ cur.size) :
    (Builtin.append_ #[t, t] ty #[.slice (some ⟨g, k, none⟩) sLen sCap, .slice (some ad) m c]).run P w =
      .ok (.slice (some ⟨g, k, none⟩) (sLen + m) sCap) (w.setRow g (cur.toList.take (k + sLen * i.size) ++ news ++ cur.toList.drop (k + sLen * i.size + news.length)).toArray) := by
  have hf := run_firstCells_some (P := P) w i.size m ad m c news hl hnews
  have hst := run_storeCells_at P g (k + sLen * i.size) el news 0 cur w hg (by simpa using hfit) h1
  simp only [Nat.add_zero] at hst
  simp [Builtin.append_, run_underlying ht, Go.sizeOf, typeInfo, hi, Builtin.lenOf, hroom, hf, Addr.add_mid, hst]

theorem run_builtinOp {c : Call} {b : Builtin} (ho : o.op = .call c) (hc : c.callee = .builtin b) :
    (execOp a.eval o).run P w = (builtin b c.argTypes o.type (c.args.map fun | .const _ => true | _ => false) (c.args.map a.eval)).run P w := by
  unfold execOp
  simp only [ho, resolve, hc, Sem.run_bind, Sem.run_pure, Result.andThen_ok, invoke]
  rfl

theorem list2 {α : Type} {l : Array α} {x y : α} (h : l.toList = [x, y]) : l = #[x, y] := by
  obtain ⟨l⟩ := l
  simp at h
  subst h
  rfl

theorem op_append (hmk : makes fi o = true) (hT : TtOk P X) (hN : N ≤ N') (hnm : nm < N') (hβ : β nm = none) (hS : SRel N β μ nt σ a w) {t e : TypeId} {ti st : TI} {s x : C} {us ux : Value} {p : C × St}
    (hst : X.tt t = some st) (hd : st.desc = .slice e) (hti : X.tt e = some ti) (hs : CRel β μ s us) (hx : CRel β μ x ux) (h : appendC ti nm σ s x = some p) {ty : TypeId}
    (hrun : ∀ y w', (Builtin.append_ #[t, t] ty #[us, ux]).run P w = .ok y w' → (execOp a.eval o).run P w = .ok (.value y) w') : OpOk P fi N' nm β μ nt σ a w o (.one p.1) p.2 := by
  obtain ⟨i, hi, hsz, hby, hz, hue, hu⟩ := elem_info hT hst (.inl hd) hti
  rw [hd] at hu
  obtain ⟨z, hzv, hzs⟩ := (hT e ti hti).2
  unfold appendC at h
  split at h
  case h_2 => cases h
  rename_i news m hnews hm
  split at h
  case isFalse => cases h
  rename_i hck
  simp only [Bool.and_eq_true, decide_eq_true_eq] at hck
  obtain ⟨⟨hpos, hok⟩, hnl⟩ := hck
  have hsrc0 : m = 0 → (∃ c', ux = .slice none 0 c') ∨ ∃ ad c', ux = .slice (some ad) 0 c' := by
    intro hm0
    subst hm0
    unfold lenC at hm
    split at hm
    · rename_i n c
      simp only [Option.some.injEq] at hm
      subst hm
      exact .inl ⟨c, hx⟩
    · simp only [Option.some.injEq] at hm
      subst hm
      obtain ⟨p', k', rc, _, rfl, _⟩ := hx
      exact .inr ⟨_, _, rfl⟩
    · simp [sliceCells] at hnews
    · cases hm
  split at h
  · -- nil
    have hs' : us = .slice none 0 0 := hs
    split at h
    · rename_i hm0
      simp only [Option.some.injEq] at h
      subst h
      exact OpOk.val hN hS (hrun _ _ (run_append_none t ty e i hu hi hs' (Nat.le_refl _) (hsrc0 hm0))) hs
    · rename_i hm0
      split at h
      case isFalse => cases h
      rename_i hck
      simp only [Bool.and_eq_true, decide_eq_true_eq] at hck
      simp only [Option.some.injEq] at h
      subst h
      obtain ⟨ad, c, ys, rfl, hyl, hcell, hall⟩ := src_ok hS hnews hm hnl hx (by omega) hpos
      subst hs'
      have hr := run_append_nil (P := P) w t ty e i z hu hi (by rw [hz, hzv]) ad m c ys (by rw [hsz]; exact hyl) hcell (by omega) (by omega) (by rw [hby]; omega)
      have hge := grownCap_ge w m 0 e
      refine ?_
      let arr := ys.toArray ++ Builtin.zeroCells z.cells (grownCap w m 0 e - m)
      have harr : arr.size = grownCap w m 0 e * ti.size := by
        simp only [arr, Array.size_append, List.size_toArray, size_zeroCells, hzs, hyl, ← Nat.add_mul]
        congr 1
        omega
      have hlen := hall.length
      let q : Pl := ⟨w.heap.size, 0, arr.size, news.length, ti.size⟩
      have hB : BRel (upd β nm q) q (.row true ti.size news) (w.drew.alloc (.cells arr e)) :=
        ⟨rfl, rfl, arr, e, (0, 0), ys, alloc_new w.drew _, fun j y hj => by
          have hj' : j < ys.length := (List.getElem?_eq_some_iff.1 hj).1
          simp only [arr, q, Nat.zero_add]
          rw [Array.getElem?_append_left (by simpa using hj')]
          simpa using hj, hall.mono fun _ _ _ => CRel.up (upd_ext q hβ) fun _ _ _ h => h, rfl, by show 0 + news.length ≤ arr.size; rw [harr]; have := Nat.mul_le_mul_right ti.size hge; omega, fun _ => rfl⟩
      have hS' := hS.make (N' := N') (w' := w.drew.alloc (.cells arr e)) hN hnm hβ (p := q) (x1 := .row true ti.size news) (fun r hr _ => alloc_old w.drew _ r hr)
        (fun b x q' hb hq => by obtain ⟨q2, g1, g2⟩ := hS.heap.blk b x hb; rw [hq, Option.some.injEq] at g1; subst g1; exact Nat.ne_of_lt g2.lt)
        (fun u ds hu he => by obtain ⟨r, g1, g2⟩ := hS.box u ds hu; rw [he, Option.some.injEq] at g1; subst g1; exact absurd g2.lt (Nat.lt_irrefl _)) hB
      refine ⟨_, _, _, upd β nm q, μ, hrun _ _ hr, .inl rfl, ⟨q, 0, grownCap w m 0 e, upd_same β nm q, rfl, Nat.le_refl _, hge, fun _ => rfl, .inr ⟨hpos, by simp only [Nat.zero_add]; exact hnl.symm, ?_⟩⟩, hS', Step.make (w := w) (w' := w.drew.alloc (.cells arr e)) ⟨rfl, rfl, rfl, by simp⟩ hβ (Nat.le_refl _) (fun k hk => alloc_old w.drew _ k hk), fun b hb => upd_other β q (hb.resolve_right (by rw [hmk]; simp)), fun _ _ => rfl, rfl⟩
      show 0 + 0 + grownCap w m 0 e * ti.size ≤ arr.size
      omega
  · rename_i b k len cap
    obtain ⟨pb, k', rc, hβb, rfl, hlc, hcr, hk, hgrow⟩ := hs
    split at h
    case h_2 => cases h
    rename_i sz cs hb
    obtain ⟨pb', g1, hps, hn, arr, el, fr, xs, hh, hwin, hallb, hext, hfit, hfr⟩ := hS.heap.blk b _ hb
    rw [hβb, Option.some.injEq] at g1
    subst g1
    obtain rfl := hfr rfl
    have hxl := hallb.length
    split at h
    · rename_i hm0
      simp only [Option.some.injEq] at h
      subst h
      exact OpOk.val hN hS (hrun _ _ (run_append_none t ty e i hu hi rfl (by omega) (hsrc0 hm0))) ⟨pb, k', rc, hβb, rfl, hlc, hcr, hk, hgrow⟩
    · rename_i hm0
      obtain ⟨ad, c, ys, rfl, hyl, hcell, hall⟩ := src_ok hS hnews hm hnl hx (by omega) hpos
      have hlen := hall.length
      have h1 : ∀ y ∈ ys, y.oneCell' = true := all2_oneCell hok hall
      split at h
      · -- in place
        rename_i hroom
        simp only [Option.map_eq_some_iff] at h
        obtain ⟨ds, hw, rfl⟩ := h
        obtain ⟨hle, rfl⟩ := wr_some hw
        have hk' := hk (by omega)
        subst hk'
        have hr := run_append_in (P := P) (w := w) t ty e i hu hi pb.rb (pb.ro + k) len rc el arr hh ad m c ys (by rw [hsz]; exact hyl) hcell h1 (by omega) (by rw [hsz]; omega)
        rw [hsz] at hr
        refine ⟨_, _, _, β, μ, hrun _ _ hr, .inl rfl, ⟨pb, pb.ro + k, rc, hβb, rfl, hroom, by omega, fun _ => rfl, hgrow⟩, ?_, Step.write (same_setRow w _ _) hb rfl hβb (fun q _ hq => setRow_other w pb.rb q _ hq), fun _ _ => rfl, fun _ _ => rfl, rfl⟩
        refine (hS.write (x1 := .row true sz _) hb rfl hβb (fun q _ hq => setRow_other w pb.rb q _ hq) ?_).wider hN
        refine ⟨hps, ?_, _, el, (0, 0), xs.take (k + len * ti.size) ++ (ys ++ xs.drop (k + len * ti.size + ys.length)), setRow_heap w pb.rb arr _ el (0, 0) hh, ?_, all2_over hallb hall, ?_, ?_, fun _ => rfl⟩
        · rw [hn]; simp; omega
        · rw [Nat.add_assoc pb.ro k]; exact winAt_over hwin (by omega) (by omega)
        · rw [hext, size_over (by omega)]
        · rw [size_over (by omega)]; simp; omega
      · rename_i hroom
        split at h
        case isFalse => cases h
        rename_i hck
        simp only [Bool.and_eq_true, decide_eq_true_eq] at hck
        obtain ⟨⟨⟨⟨hsz', hlc'⟩, hend⟩, h63⟩, hbb⟩ := hck
        simp only [Option.map_eq_some_iff] at h
        obtain ⟨olds, ho, rfl⟩ := h
        obtain ⟨hle, rfl⟩ := rd_some ho
        subst hlc'
        subst hsz'
        have hallo : All2 (CRel β noF) ((cs.drop k).take (len * ti.size)) ((xs.drop k).take (len * ti.size)) := (hallb.drop k).take _
        have holen : ((xs.drop k).take (len * ti.size)).length = len * ti.size := by simp; omega
        have hollen : ((cs.drop k).take (len * ti.size)).length = len * ti.size := by simp; omega
        by_cases hin : len + m ≤ rc
        · -- in the spare room
          have hk' := hk (by omega)
          subst hk'
          rcases hgrow with hg | ⟨hp0, hp1, hp2⟩
          · omega
          have hspare : pb.ro + k + (len + m) * ti.size ≤ arr.size := by
            have := Nat.mul_le_mul_right ti.size hin
            rw [hps] at hp2
            omega
          have hr := run_append_in (P := P) (w := w) t ty e i hu hi pb.rb (pb.ro + k) len rc el arr hh ad m c ys (by rw [hsz]; exact hyl) hcell h1 hin (by rw [hsz, hyl, Nat.add_assoc, ← Nat.add_mul]; exact hspare)
          rw [hsz] at hr
          let q : Pl := ⟨pb.rb, pb.ro + k, arr.size, (len + m) * ti.size, ti.size⟩
          have hext' : ∀ b p, β b = some p → upd β nm q b = some p := upd_ext q hβ
          have hch : ∀ r, r < w.heap.size → r ≠ pb.rb → (w.setRow pb.rb (arr.toList.take (pb.ro + k + len * ti.size) ++ ys ++ arr.toList.drop (pb.ro + k + len * ti.size + ys.length)).toArray).heap[r]? = w.heap[r]? := fun r _ hr => setRow_other w pb.rb r _ hr
          have hB : BRel (upd β nm q) q (.row true ti.size ((cs.drop k).take (len * ti.size) ++ news)) (w.setRow pb.rb (arr.toList.take (pb.ro + k + len * ti.size) ++ ys ++ arr.toList.drop (pb.ro + k + len * ti.size + ys.length)).toArray) := by
            refine ⟨rfl, ?_, _, el, (0, 0), (xs.drop k).take (len * ti.size) ++ ys, setRow_heap w pb.rb arr _ el (0, 0) hh, ?_, ?_, ?_, ?_, fun _ => rfl⟩
            · simp only [q, List.length_append, hollen, hnl, Nat.add_mul]
            · intro j y hj
              show _[pb.ro + k + j]? = _
              simp only [List.getElem?_toArray]
              rcases Nat.lt_or_ge j (len * ti.size) with h2 | h2
              · rw [List.append_assoc, List.getElem?_append_left (by simp; omega), List.getElem?_take, if_pos (by omega)]
                rw [List.getElem?_append_left (by omega), List.getElem?_take, if_pos h2, List.getElem?_drop] at hj
                have := hwin (k + j) y hj
                simpa [Nat.add_assoc] using this
              · rw [List.getElem?_append_right (by omega), holen] at hj
                have h3 : j - len * ti.size < ys.length := (List.getElem?_eq_some_iff.1 hj).1
                have e2 : (arr.toList.take (pb.ro + k + len * ti.size)).length = pb.ro + k + len * ti.size := by simp; omega
                rw [List.append_assoc, List.getElem?_append_right (by omega), e2, List.getElem?_append_left (by omega), show pb.ro + k + j - (pb.ro + k + len * ti.size) = j - len * ti.size by omega]
                exact hj
            · exact (hallo.append hall).mono fun _ _ _ => CRel.up hext' fun _ _ _ h => h
            · show arr.size = _
              rw [size_over (by rw [hyl, Nat.add_assoc, ← Nat.add_mul]; exact hspare)]
            · show pb.ro + k + _ ≤ _
              rw [size_over (by rw [hyl, Nat.add_assoc, ← Nat.add_mul]; exact hspare), List.length_append, hollen, hnl, ← Nat.add_mul]
              exact hspare
          have hfree : ∀ b' x q', (σ.h.del b).get b' = some x → β b' = some q' → q'.rb ≠ pb.rb := fun b' x q' hb' hq' => by
            rw [Heap.get_del] at hb'
            split at hb'
            · cases hb'
            · rename_i hne
              exact Ne.symm (hS.heap.apart b b' _ x pb q' hne hb hb' hβb hq' rfl)
          have hS' := (hS.del b).make (N' := N') hN hnm hβ (p := q) (x1 := .row true ti.size ((cs.drop k).take (len * ti.size) ++ news)) hch hfree (fun u ds hu he => hS.hap u ds b _ pb hu hb hβb he) hB
          refine ⟨_, _, _, upd β nm q, μ, hrun _ _ hr, .inl rfl, ⟨q, pb.ro + k, rc, upd_same β nm q, rfl, Nat.le_refl _, hin, fun _ => rfl, .inr ⟨hpos, ?_, ?_⟩⟩, hS', Step.move (same_setRow w _ _) hb rfl hβb hβ rfl hch, fun b hb => upd_other β q (hb.resolve_right (by rw [hmk]; simp)), fun _ _ => rfl, rfl⟩
          · show 0 + (len + m) * ti.size = (len + m) * ti.size
            omega
          · show pb.ro + k + 0 + rc * ti.size ≤ arr.size
            rw [hps] at hp2
            omega
        · -- a new row
          have holds : ∀ j y, ((xs.drop k).take (len * ti.size))[j]? = some y → w.cell? ((⟨pb.rb, k', none⟩ : Addr).add j) = some y := fun j y hj => by
            rw [List.getElem?_take] at hj
            split at hj
            · rename_i hjl
              have hl0 : 0 < len := by
                rcases Nat.eq_zero_or_pos len with h0 | h0
                · subst h0; simp at hjl
                · exact h0
              have hk' := hk (by omega)
              subst hk'
              rw [Addr.add_mid, cell_row hh]
              have := hwin (k + j) y (by simpa [List.getElem?_drop] using hj)
              simpa [Nat.add_assoc] using this
            · cases hj
          have hr := run_append_grow (P := P) w t ty e i z hu hi (by rw [hz, hzv]) ⟨pb.rb, k', none⟩ len rc ((xs.drop k).take (len * ti.size)) (by rw [hsz]; exact holen) holds ad m c ys (by rw [hsz]; exact hyl) hcell (by omega) (by omega)
            (growslice_fits (by omega) (by rw [hby]; exact hbb))
          have hge := grownCap_ge w (len + m) rc e
          let arr' := ((xs.drop k).take (len * ti.size)).toArray ++ ys.toArray ++ Builtin.zeroCells z.cells (grownCap w (len + m) rc e - (len + m))
          have harr : arr'.size = grownCap w (len + m) rc e * ti.size := by
            simp only [arr', Array.size_append, List.size_toArray, size_zeroCells, hzs, hyl, holen, ← Nat.add_mul]
            congr 1
            omega
          let q : Pl := ⟨w.heap.size, 0, arr'.size, (len + m) * ti.size, ti.size⟩
          have hB : BRel (upd β nm q) q (.row true ti.size ((cs.drop k).take (len * ti.size) ++ news)) (w.drew.alloc (.cells arr' e)) := by
            refine ⟨rfl, ?_, arr', e, (0, 0), (xs.drop k).take (len * ti.size) ++ ys, alloc_new w.drew _, ?_, ?_, rfl, ?_, fun _ => rfl⟩
            · simp only [q, List.length_append, hollen, hnl, Nat.add_mul]
            · intro j y hj
              have hj' := (List.getElem?_eq_some_iff.1 hj).1
              simp only [arr', q, Nat.zero_add]
              rw [Array.getElem?_append_left (by simpa using hj')]
              simpa using hj
            · exact (hallo.append hall).mono fun _ _ _ => CRel.up (upd_ext q hβ) fun _ _ _ h => h
            · show 0 + _ ≤ arr'.size
              rw [harr, List.length_append, hollen, hnl, ← Nat.add_mul, Nat.zero_add]
              exact Nat.mul_le_mul_right _ hge
          have hfresh : ∀ b' x q', (σ.h.del b).get b' = some x → β b' = some q' → q'.rb ≠ w.heap.size := fun b' x q' hb' hq' => by
            obtain ⟨q2, g1, g2⟩ := (hS.del b).heap.blk b' x hb'
            rw [hq', Option.some.injEq] at g1
            subst g1
            exact Nat.ne_of_lt g2.lt
          have hS' := (hS.del b).make (N' := N') (w' := w.drew.alloc (.cells arr' e)) hN hnm hβ (p := q) (x1 := .row true ti.size ((cs.drop k).take (len * ti.size) ++ news)) (fun r hr _ => alloc_old w.drew _ r hr) hfresh
            (fun u ds hu he => by obtain ⟨r, g1, g2⟩ := hS.box u ds hu; rw [he, Option.some.injEq] at g1; subst g1; exact absurd g2.lt (Nat.lt_irrefl _)) hB
          refine ⟨_, _, _, upd β nm q, μ, hrun _ _ hr, .inl rfl, ⟨q, 0, grownCap w (len + m) rc e, upd_same β nm q, rfl, Nat.le_refl _, hge, fun _ => rfl, .inr ⟨hpos, ?_, ?_⟩⟩, hS',
            (Step.del β μ σ w b).trans (Step.make (w := w) (w' := w.drew.alloc (.cells arr' e)) ⟨rfl, rfl, rfl, by simp⟩ hβ (Nat.le_refl _) (fun k hk => alloc_old w.drew _ k hk)), fun b hb => upd_other β q (hb.resolve_right (by rw [hmk]; simp)), fun _ _ => rfl, rfl⟩
          · show 0 + (len + m) * ti.size = (len + m) * ti.size
            omega
          · show 0 + 0 + grownCap w (len + m) rc e * ti.size ≤ arr'.size
            omega
  · cases h

theorem entries_ok (hS : SRel N β μ nt σ a w) {c : C} {es : List (Value × V × Nat)} {x : Value} (h : entriesOf σ c = some es) (hx : CRel β μ c x) :
    (x = .map none ∧ es = []) ∨ ∃ r arr clock, x = .map (some r) ∧ w.heap[r]? = some (.map arr clock) ∧ All2 (ERel β) es arr.toList := by
  unfold entriesOf at h
  split at h
  · simp only [Option.some.injEq] at h
    exact .inl ⟨hx, h.symm⟩
  · rename_i b
    split at h
    · rename_i es' clock hb
      simp only [Option.some.injEq] at h
      subst h
      obtain ⟨p, hβ, rfl⟩ := hx
      obtain ⟨p', g1, _, arr, h1, h2⟩ := hS.heap.blk b _ hb
      rw [hβ, Option.some.injEq] at g1
      subst g1
      exact .inr ⟨p.rb, arr, clock, rfl, h1, h2⟩
    · cases h
  · cases h

theorem run_getMap {r : Nat} {arr : Array MapEntry} {clock : Nat} (h : w.heap[r]? = some (.map arr clock)) : (getObj r).run P w = .ok (.map arr clock) w := by
  simp [getObj, Sem.run, h]

theorem op_len (hT : TtOk P X) (hN : N ≤ N') (hS : SRel N β μ nt σ a w) {ts : Array TypeId} {c : C} {x : Value} {vs : List V} (hvs : vs = [.one c]) (hx : CRel β μ c x)
    (h : builtinE X nm σ .len ts.toList vs = some (v, σ')) {ty : TypeId} (hrun : ∀ y w', (Builtin.len_ ts ty #[x]).run P w = .ok y w' → (execOp a.eval o).run P w = .ok (.value y) w') : OpOk P fi N' nm β μ nt σ a w o v σ' := by
  subst hvs
  obtain ⟨ts⟩ := ts
  cases ts with
  | nil => simp [builtinE] at h
  | cons t rest =>
    simp only [builtinE] at h
    split at h
    case h_2 => cases h
    rename_i ti hti
    obtain ⟨i, hi, hs, hb, hz, hu⟩ := tt_info hT hti
    split at h
    · rename_i k e hd
      rw [hd] at hu
      simp only [Option.map_eq_some_iff, Prod.mk.injEq] at h
      obtain ⟨es, h1, rfl, rfl⟩ := h
      refine OpOk.val hN hS (x := .int .i64 es.length) (hrun _ _ ?_) rfl
      rcases entries_ok hS h1 hx with ⟨rfl, rfl⟩ | ⟨r, arr, clock, rfl, h2, h3⟩
      · simp [Builtin.len_, run_underlying hu, goInt]
      · have := h3.length
        simp at this
        simp [Builtin.len_, run_underlying hu, goInt, run_getMap h2, this]
    · rename_i n e hd
      rw [hd] at hu
      simp only [Option.some.injEq, Prod.mk.injEq] at h
      obtain ⟨rfl, rfl⟩ := h
      refine OpOk.val hN hS (x := .int .i64 n) (hrun _ _ ?_) rfl
      simp [Builtin.len_, run_underlying hu, goInt]
    · rename_i e hd
      rw [hd] at hu
      split at h
      · cases h
      · rename_i hns
        simp only [Option.map_eq_some_iff, Prod.mk.injEq] at h
        obtain ⟨n, h1, rfl, rfl⟩ := h
        refine OpOk.val hN hS (x := .int .i64 n) (hrun _ _ ?_) rfl
        unfold lenC at h1
        split at h1
        · rename_i m k
          simp only [Option.some.injEq] at h1
          subst h1
          have hx' : x = .slice none m k := hx
          subst hx'
          simp [Builtin.len_, run_underlying hu, goInt]
        · simp only [Option.some.injEq] at h1
          subst h1
          obtain ⟨p, k', rc, hβ, rfl, _⟩ := hx
          simp [Builtin.len_, run_underlying hu, goInt]
        · rename_i s
          exact absurd rfl (hns s)
        · cases h1
    · rename_i hd
      rw [hd] at hu
      split at h
      · rename_i s
        simp only [Option.some.injEq, Prod.mk.injEq] at h
        obtain ⟨rfl, rfl⟩ := h
        have hx' : x = .string s := hx
        subst hx'
        refine OpOk.val hN hS (x := .int .i64 s.data.toList.length) (hrun _ _ ?_) rfl
        simp only [Builtin.len_]
        simp [run_underlying hu, goInt]
      · cases h
    · cases h
end ops
end E
end Go.Proofs.Ytnfehccnofhmnaa

/-
  An abstract machine of this place's own: maps: in the model as here. No condition.
-/
namespace Go.Proofs.Ytnfehccnofhmnaa
open Go.RowKit
namespace E
section ops
variable {P : Program} {X : Ctx} {fi : Fi} {N N' nm : Nat} {β : Pls} {μ : Fms} {nt : Nat} {σ σ' : St} {a : Act} {w : World} {o : Oper} {v : V}

/-- The place of a key. -/
def idxK (d : KD) (k : Value) : List (Value × V × Nat) → Option (Option Nat)
  | [] => some none
  | (k', _, _) :: l => match keyEq d k k' with
    | some true => some (some 0)
    | some false => (idxK d k l).map (·.map (· + 1))
    | none => none

theorem findK_some {d : KD} {k : Value} : ∀ {es : List (Value × V × Nat)} {v : V} {n : Nat}, findK d k es = some (some (v, n)) → ∃ i k', idxK d k es = some (some i) ∧ es[i]? = some (k', v, n) ∧ keyEq d k k' = some true
  | [], _, _, h => by simp [findK] at h
  | (k', u, m) :: l, v, n, h => by
    simp only [findK] at h
    split at h
    · rename_i hk
      simp only [Option.some.injEq, Prod.mk.injEq] at h
      obtain ⟨rfl, rfl⟩ := h
      exact ⟨0, k', by simp [idxK, hk], rfl, hk⟩
    · rename_i hk
      obtain ⟨i, k2, h1, h2, h3⟩ := findK_some h
      exact ⟨i + 1, k2, by simp [idxK, hk, h1], by simpa using h2, h3⟩
    · cases h

theorem findK_none {d : KD} {k : Value} : ∀ {es : List (Value × V × Nat)}, findK d k es = some none → idxK d k es = some none
  | [], _ => rfl
  | (k', u, m) :: l, h => by
    simp only [findK] at h
    split at h
    · cases h
    · rename_i hk
      simp [idxK, hk, findK_none h]
    · cases h

theorem setK_some {d : KD} {k : Value} {u : V} : ∀ {es es' : List (Value × V × Nat)}, setK d k u es = some es' → ∃ i k' v n, idxK d k es = some (some i) ∧ es[i]? = some (k', v, n) ∧ es' = es.set i (k, u, n) ∧ keyEq d k k' = some true
  | [], _, h => by simp [setK] at h
  | (k', v, m) :: l, es', h => by
    simp only [setK] at h
    split at h
    · rename_i hk
      simp only [Option.some.injEq] at h
      subst h
      exact ⟨0, k', v, m, by simp [idxK, hk], rfl, rfl, hk⟩
    · rename_i hk
      simp only [Option.map_eq_some_iff] at h
      obtain ⟨l', h1, rfl⟩ := h
      obtain ⟨i, k2, v2, n2, g1, g2, rfl, g4⟩ := setK_some h1
      exact ⟨i + 1, k2, v2, n2, by simp [idxK, hk, g1], by simpa using g2, rfl, g4⟩
    · cases h

theorem dropK_some {d : KD} {k : Value} : ∀ {es es' : List (Value × V × Nat)}, dropK d k es = some es' → (∃ i, idxK d k es = some (some i) ∧ i < es.length ∧ es' = es.eraseIdx i) ∨ (idxK d k es = some none ∧ es' = es)
  | [], _, h => by simp only [dropK, Option.some.injEq] at h; subst h; exact .inr ⟨rfl, rfl⟩
  | (k', v, m) :: l, es', h => by
    simp only [dropK] at h
    split at h
    · rename_i hk
      simp only [Option.some.injEq] at h
      subst h
      exact .inl ⟨0, by simp [idxK, hk], by simp, rfl⟩
    · rename_i hk
      simp only [Option.map_eq_some_iff] at h
      obtain ⟨l', h1, rfl⟩ := h
      rcases dropK_some h1 with ⟨i, g1, g2, rfl⟩ | ⟨g1, rfl⟩
      · exact .inl ⟨i + 1, by simp [idxK, hk, g1], by simp; omega, rfl⟩
      · exact .inr ⟨by simp [idxK, hk, g1], rfl⟩
    · cases h

theorem bytes_beq (s t : ByteArray) : (s == t) = strEq s t := by
  show (s.data == t.data) = (s.data.toList == t.data.toList)
  rw [Bool.eq_iff_iff]
  simp only [beq_iff_eq]
  constructor
  · intro h; rw [h]
  · intro h; exact Array.toList_inj.1 h

theorem keyEq_cells {t : TypeId} {ks : List CK} {u u' : Value} {r : Bool} (h : keyEq (.cells t ks) u u' = some r) : ∃ xs ys : Array Value, u = .agg xs ∧ u' = .agg ys ∧ eqK ks (xs.toList.map .lit) (ys.toList.map .lit) = some r := by
  cases u <;> cases u' <;> simp only [keyEq, reduceCtorEq] at h
  exact ⟨_, _, rfl, rfl, h⟩

theorem keyEq_i {u u' : Value} {r : Bool} (h : keyEq (.cell .i) u u' = some r) : ∃ k i j, u = .int k i ∧ u' = .int k j ∧ r = (i == j) := by
  cases u <;> cases u' <;> simp only [keyEq, eqK1, reduceCtorEq] at h
  split at h
  · rename_i hk
    subst hk
    simp only [Option.some.injEq] at h
    exact ⟨_, _, _, rfl, rfl, h.symm⟩
  · cases h

theorem keyEq_s {u u' : Value} {r : Bool} (h : keyEq (.cell .s) u u' = some r) : ∃ i j, u = .string i ∧ u' = .string j ∧ r = strEq i j := by
  cases u <;> cases u' <;> simp only [keyEq, eqK1, reduceCtorEq, Option.some.injEq] at h
  exact ⟨_, _, rfl, rfl, h.symm⟩

theorem keyEq_b {u u' : Value} {r : Bool} (h : keyEq (.cell .b) u u' = some r) : ∃ i j, u = .bool i ∧ u' = .bool j ∧ r = (i == j) := by
  cases u <;> cases u' <;> simp only [keyEq, eqK1, reduceCtorEq, Option.some.injEq] at h
  exact ⟨_, _, rfl, rfl, h.symm⟩

/-- How the model compares keys of a type. -/
def KdOk (P : Program) (X : Ctx) (t : TypeId) : KD → Prop
  | .cell .i => ∃ k, P.underlying t = some (.int k)
  | .cell .s => P.underlying t = some .string
  | .cell .b => P.underlying t = some .bool
  | .cells t' ks => t' = t ∧ X.flat t = some ks ∧ ∃ d, P.underlying t = some d ∧ isAggD d = true

theorem kd_ok (hT : TtOk P X) {t : TypeId} {d : KD} (h : keyKD X t = some d) : KdOk P X t d := by
  unfold keyKD at h
  split at h
  case h_2 => cases h
  rename_i ti hti
  obtain ⟨i, hi, hs, hb, hz, hu⟩ := tt_info hT hti
  split at h
  · rename_i k hd; rw [hd] at hu; simp only [Option.some.injEq] at h; subst h; exact ⟨k, hu⟩
  · rename_i hd; rw [hd] at hu; simp only [Option.some.injEq] at h; subst h; exact hu
  · rename_i hd; rw [hd] at hu; simp only [Option.some.injEq] at h; subst h; exact hu
  · rename_i fs hd
    simp only [Option.map_eq_some_iff] at h
    obtain ⟨ks, h1, rfl⟩ := h
    exact ⟨rfl, h1, _, hu, by rw [hd]; rfl⟩
  · rename_i n e hd
    simp only [Option.map_eq_some_iff] at h
    obtain ⟨ks, h1, rfl⟩ := h
    exact ⟨rfl, h1, _, hu, by rw [hd]; rfl⟩
  · cases h

theorem checkIn_plain {t : TypeId} {d : TypeDesc} (hu : P.underlying t = some d) {u : Value} (hd : isAggD d = false) (hi : ∀ ms, d ≠ .interface ms) (b : Bool) (n : Nat) :
    (Instr.checkKey b (n + 1) t u).run P w = .ok () w := by
  simp only [Instr.checkKey, Sem.run_bind, run_underlying hu w, Result.andThen_ok]
  cases d <;> simp_all [isAggD] <;> rfl

theorem check_ok (hF : FlatOk P X) {t : TypeId} {d : KD} (hd : KdOk P X t d) {k : Value} (hk : keyOkE d k = true) (b : Bool) : (Instr.checkKey b 10000 t k).run P w = .ok () w := by
  cases d with
  | cell c =>
    cases c with
    | i => obtain ⟨k', hu⟩ := hd; exact checkIn_plain hu rfl (by simp) b 9999
    | b => exact checkIn_plain hd rfl (by simp) b 9999
    | s => exact checkIn_plain hd rfl (by simp) b 9999
  | cells t' ks =>
    obtain ⟨rfl, hf, _⟩ := hd
    simp only [keyOkE, Option.isSome_iff_exists] at hk
    obtain ⟨r, hr⟩ := hk
    obtain ⟨xs, ys, rfl, h2, hr'⟩ := keyEq_cells hr
    exact ((hF _ _ hf).2 _ _ _ hr' w).2 b

theorem sameNow_ok {t : TypeId} {c : CK} (hd : KdOk P X t (.cell c)) : ∃ desc, P.underlying t = some desc ∧ ∀ k k' r, keyEq (.cell c) k k' = some r → Instr.sameNow desc k k' = some r := by
  cases c with
  | i =>
    obtain ⟨kk, hu⟩ := hd
    refine ⟨_, hu, fun k k' r h => ?_⟩
    obtain ⟨p, i, j, rfl, rfl, rfl⟩ := keyEq_i h
    simp [Instr.sameNow]
  | b =>
    refine ⟨_, hd, fun k k' r h => ?_⟩
    obtain ⟨i, j, rfl, rfl, rfl⟩ := keyEq_b h
    rfl
  | s =>
    refine ⟨_, hd, fun k k' r h => ?_⟩
    obtain ⟨i, j, rfl, rfl, rfl⟩ := keyEq_s h
    simp [Instr.sameNow, bytes_beq]

theorem findNow_ok {desc : TypeDesc} {d : KD} {k : Value} (hs : ∀ k' r, keyEq d k k' = some r → Instr.sameNow desc k k' = some r) : ∀ {es : List (Value × V × Nat)} {l : List MapEntry} {r : Option Nat} (i : Nat),
    idxK d k es = some r → All2 (ERel β) es l → Instr.findNow desc k l i = some (match r with | none => none | some j => (l[j]?).map fun e => (i + j, e.val))
  | [], [], r, i, h, _ => by simp only [idxK, Option.some.injEq] at h; subst h; rfl
  | (k', v, n) :: es, e :: l, r, i, h, hall => by
    simp only [idxK] at h
    have hkey : e.key = k' := hall.1.1
    split at h
    · rename_i hk
      simp only [Option.some.injEq] at h
      subst h
      simp [Instr.findNow, hkey, hs k' true hk]
    · rename_i hk
      simp only [Option.map_eq_some_iff] at h
      obtain ⟨r', h1, rfl⟩ := h
      have ih := findNow_ok hs (i + 1) h1 hall.2
      simp only [Instr.findNow, hkey, hs k' false hk, ih]
      cases r' with
      | none => rfl
      | some j => simp [Nat.add_assoc, Nat.add_comm 1 j]
    · cases h
  | [], _ :: _, _, _, _, h => h.elim
  | _ :: _, [], _, _, _, h => h.elim

theorem findAsking_ok (hF : FlatOk P X) {t : TypeId} {ks : List CK} (hf : X.flat t = some ks) {k : Value} : ∀ {es : List (Value × V × Nat)} {l : List MapEntry} {r : Option Nat} (i : Nat),
    idxK (.cells t ks) k es = some r → All2 (ERel β) es l → (Instr.findAsking t k l i).run P w = .ok (match r with | none => none | some j => (l[j]?).map fun e => (i + j, e.val)) w
  | [], [], r, i, h, _ => by simp only [idxK, Option.some.injEq] at h; subst h; rfl
  | (k', v, n) :: es, e :: l, r, i, h, hall => by
    simp only [idxK] at h
    have hkey : e.key = k' := hall.1.1
    have heq : ∀ q, keyEq (.cells t ks) k k' = some q → (Op.equal t k e.key).run P w = .ok q w := fun q hq => by
      obtain ⟨xs, ys, rfl, rfl, hq'⟩ := keyEq_cells hq
      rw [hkey]
      exact ((hF _ _ hf).2 _ _ _ hq' w).1
    split at h
    · rename_i hk
      simp only [Option.some.injEq] at h
      subst h
      simp [Instr.findAsking, heq true hk]
    · rename_i hk
      simp only [Option.map_eq_some_iff] at h
      obtain ⟨r', h1, rfl⟩ := h
      have ih := findAsking_ok hF hf (i + 1) h1 hall.2
      simp only [Instr.findAsking, Sem.run_bind, heq false hk, Result.andThen_ok, Bool.false_eq_true, if_false, ih]
      cases r' with
      | none => rfl
      | some j => simp [Nat.add_assoc, Nat.add_comm 1 j]
    · cases h
  | [], _ :: _, _, _, _, h => h.elim
  | _ :: _, [], _, _, _, h => h.elim

theorem findKey_ok (hF : FlatOk P X) {t : TypeId} {d : KD} (hd : KdOk P X t d) {k : Value} {es : List (Value × V × Nat)} {l : List MapEntry} {r : Option Nat} (h : idxK d k es = some r) (hall : All2 (ERel β) es l) :
    (Instr.findKey t k l).run P w = .ok (match r with | none => none | some j => (l[j]?).map fun e => (j, e.val)) w := by
  cases d with
  | cell c =>
    obtain ⟨desc, hu, hs⟩ := sameNow_ok hd
    have := findNow_ok (fun k' r => hs k k' r) 0 h hall
    simp only [Instr.findKey, Sem.run_bind, run_underlying hu w, Result.andThen_ok, this]
    cases r <;> simp
  | cells t' ks =>
    obtain ⟨rfl, hf, desc, hu, hagg⟩ := hd
    have h1 := findAsking_ok (w := w) hF hf 0 h hall
    simp only [Instr.findKey, Sem.run_bind, run_underlying hu w, Result.andThen_ok]
    cases l with
    | nil =>
      cases es with
      | nil => simp only [idxK, Option.some.injEq] at h; subst h; rfl
      | cons => exact hall.elim
    | cons e l =>
      have : Instr.findNow desc k (e :: l) 0 = none := by
        simp only [Instr.findNow]
        cases desc <;> simp [isAggD] at hagg <;> rfl
      simp only [this, h1]
      cases r <;> simp

theorem map_info (hT : TtOk P X) {t : TypeId} {d : KD} {et : TI} (h : mapKD X t = some (d, et)) :
    ∃ k e i, P.underlying t = some (.map k e) ∧ KdOk P X k d ∧ P.info? e = some i ∧ i.zero = et.zero := by
  unfold mapKD at h
  split at h
  case h_2 => cases h
  rename_i ti hti
  obtain ⟨i, hi, hs, hb, hz, hu⟩ := tt_info hT hti
  split at h
  · rename_i k e hd
    split at h
    · rename_i d' et' hk he
      simp only [Option.some.injEq, Prod.mk.injEq] at h
      obtain ⟨rfl, rfl⟩ := h
      obtain ⟨i', hi', _, _, hz', _⟩ := tt_info hT he
      exact ⟨k, e, i', by rw [hu, hd], kd_ok hT hk, hi', hz'⟩
    · cases h
  · cases h

theorem VRel.down {v : V} {x : Value} (hv : VRel β noF v x) (h : ∀ vs, v ≠ .tup vs) : VRel1 β μ v x := by
  cases v with
  | one c => exact CRel.up (fun _ _ h => h) (fun _ _ _ h => by cases h) hv
  | agg cs =>
    obtain ⟨l, h1, h2⟩ := hv
    exact ⟨l, h1, h2.mono fun _ _ _ => CRel.up (fun _ _ h => h) (fun _ _ _ h => by cases h)⟩
  | tup vs => exact absurd rfl (h vs)

theorem ofVal_notup (z : Value) : ∀ vs, V.ofVal z ≠ .tup vs := by
  intro vs h
  cases z <;> simp [V.ofVal] at h

theorem op_lookup (hT : TtOk P X) (hF : FlatOk P X) (hN : N ≤ N') (hS : SRel N β μ nt σ a w) {t : TypeId} {x y : Operand} {ok : Bool} (ho : o.op = .lookup t x y ok) (h : op P X fi nm o σ = some (v, σ')) : OpOk P fi N' nm β μ nt σ a w o v σ' := by
  simp only [op, ho] at h
  obtain ⟨c, h3, h4⟩ := onC_some h
  obtain ⟨u, h5, h6⟩ := onV_some h4
  split at h6
  case h_2 => cases h6
  rename_i k hk
  have hy : a.eval y = k := val_ok hk (ev_ok hS h5)
  simp only [Option.map_eq_some_iff, Prod.mk.injEq] at h6
  obtain ⟨v', h7, rfl, rfl⟩ := h6
  unfold lookupE at h7
  split at h7
  case h_2 => cases h7
  rename_i d et es hm hes
  obtain ⟨kt, e, i, hu, hkd, hie, hze⟩ := map_info hT hm
  split at h7
  case isFalse => cases h7
  rename_i hkok
  have hcheck : ∀ b, (Instr.checkKey b 10000 kt k).run P w = .ok () w := check_ok hF hkd hkok
  have hent : ∃ l : Array MapEntry, All2 (ERel β) es l.toList ∧ ((a.eval x = .map none ∧ l = #[]) ∨ ∃ r clock, a.eval x = .map (some r) ∧ w.heap[r]? = some (.map l clock)) := by
    rcases entries_ok hS hes (ev_ok hS h3) with ⟨hx, rfl⟩ | ⟨r, arr, clock, hx, h8, h9⟩
    · exact ⟨#[], trivial, .inl ⟨hx, rfl⟩⟩
    · exact ⟨arr, h9, .inr ⟨r, clock, hx, h8⟩⟩
  obtain ⟨l, hall, hl⟩ := hent
  suffices hh : ∃ z b, ((∃ i, (Instr.findKey kt k l.toList).run P w = .ok (some (i, z)) w ∧ b = true) ∨ ((Instr.findKey kt k l.toList).run P w = .ok none w ∧ (zeroValue e).run P w = .ok z w ∧ b = false)) ∧ VRel β μ v' (if ok then .tuple #[z, .bool b] else z) by
    obtain ⟨z, b, g1, g2⟩ := hh
    refine OpOk.val hN hS (x := if ok then .tuple #[z, .bool b] else z) ?_ g2
    unfold execOp
    simp only [ho, Instr.lookup, Sem.run_bind, run_underlying hu w, Result.andThen_ok, hy]
    rcases hl with ⟨hx, rfl⟩ | ⟨r, clock, hx, h8⟩ <;> rcases g1 with ⟨i, g1, rfl⟩ | ⟨g1, g3, rfl⟩ <;> rw [hx]
    · simp only [Sem.run_bind, Sem.run_pure, Result.andThen_ok, hcheck, g1]
    · simp only [Sem.run_bind, Sem.run_pure, Result.andThen_ok, hcheck, g1, g3]
    · simp only [Sem.run_bind, run_getMap h8, Sem.run_pure, Result.andThen_ok, hcheck, g1]
    · simp only [Sem.run_bind, run_getMap h8, Sem.run_pure, Result.andThen_ok, hcheck, g1, g3]
  have fin : ∀ u z b, VRel1 β μ u z → v' = (if ok then V.tup [u, .one (.lit (.bool b))] else u) → VRel β μ v' (if ok then .tuple #[z, .bool b] else z) := fun u z b h1 h2 => by
    subst h2
    cases ok with
    | false => exact h1.up
    | true => exact ⟨_, rfl, h1, rfl, trivial⟩
  split at h7
  · rename_i u n hfind
    obtain ⟨j, k', hidx, hget, hkeq⟩ := findK_some hfind
    obtain ⟨en, hen, hrel⟩ := hall.get hget
    have hrun := findKey_ok (w := w) hF hkd hidx hall
    refine ⟨en.val, true, .inl ⟨j, ?_, rfl⟩, ?_⟩
    · simp only [hrun]
      simp [hen]
    · cases ok with
      | false =>
        simp only [Bool.false_eq_true, if_false, Option.some.injEq] at h7 ⊢
        subst h7
        exact hrel.2.1.ups (fun _ _ h => h) (fun _ _ _ h => by cases h)
      | true =>
        simp only [if_true] at h7 ⊢
        split at h7
        · cases h7
        · rename_i hnt
          simp only [Option.some.injEq] at h7
          subst h7
          exact ⟨_, rfl, hrel.2.1.down hnt, rfl, trivial⟩
  · rename_i hfind
    have hrun := findKey_ok (w := w) hF hkd (findK_none hfind) hall
    split at h7
    case h_2 => cases h7
    rename_i z hz
    simp only [Option.some.injEq] at h7
    refine ⟨z, false, .inr ⟨hrun, ?_, rfl⟩, fin (V.ofVal z) z false ((vrel_ofVal β noF z).down (ofVal_notup z)) h7.symm⟩
    simp [zeroValue, typeInfo, hie, hze, hz]
  · cases h7

theorem okV_notup {v : V} (h : v.okV = true) : ∀ vs, v ≠ .tup vs := fun vs he => by subst he; simp [V.okV] at h

theorem vrel_noF {v : V} {x : Value} (h : v.okV = true) (hv : VRel β μ v x) : VRel β noF v x := by
  cases v with
  | one c => exact CRel.noF h hv
  | agg cs =>
    obtain ⟨l, h1, h2⟩ := hv
    exact ⟨l, h1, all2_noF h h2⟩
  | tup vs => simp [V.okV] at h

def World.setObj (w : World) (r : Nat) (o : Obj) : World := { w with heap := w.heap.setIfInBounds r o }

theorem run_setMap {r : Nat} {arr arr' : Array MapEntry} {clock clock' : Nat} (h : w.heap[r]? = some (.map arr clock)) : (Go.setObj r (.map arr' clock')).run P w = .ok () (World.setObj w r (.map arr' clock')) := by
  simp [Go.setObj, Sem.run, h, World.setObj]

theorem setObj_same {r : Nat} {ob : Obj} (h : r < w.heap.size) : (World.setObj w r ob).heap[r]? = some ob := by
  simp [World.setObj, h]
theorem setObj_other {r k : Nat} {ob : Obj} (h : k ≠ r) : (World.setObj w r ob).heap[k]? = w.heap[k]? := by
  simp [World.setObj, Array.getElem?_setIfInBounds_ne (Ne.symm h)]
theorem same_setObj (w : World) (r : Nat) (ob : Obj) : Same w (World.setObj w r ob) := ⟨rfl, rfl, rfl, by simp [World.setObj]⟩

theorem mp_ok (hS : SRel N β μ nt σ a w) {b : Nat} {es : List (Value × V × Nat)} {clock : Nat} (hb : σ.h.get b = some (.map es clock)) {x : Value} (hx : CRel β μ (.mp b) x) :
    ∃ p arr, β b = some p ∧ x = .map (some p.rb) ∧ p.ro = 0 ∧ w.heap[p.rb]? = some (.map arr clock) ∧ All2 (ERel β) es arr.toList := by
  obtain ⟨p, hβ, rfl⟩ := hx
  obtain ⟨p', g1, h0, arr, h1, h2⟩ := hS.heap.blk b _ hb
  rw [hβ, Option.some.injEq] at g1
  subst g1
  exact ⟨p, arr, hβ, rfl, h0, h1, h2⟩

/-- A map written. -/
theorem setMap_ok (hN : N ≤ N') (hS : SRel N β μ nt σ a w) {b : Nat} {es es' : List (Value × V × Nat)} {clock clock' : Nat} (hb : σ.h.get b = some (.map es clock)) {p : Pl} {arr arr' : Array MapEntry}
    (hβ : β b = some p) (h0 : p.ro = 0) (hh : w.heap[p.rb]? = some (.map arr clock)) (hall : All2 (ERel β) es' arr'.toList) :
    SRel N' β μ nt { σ with h := σ.h.set b (.map es' clock') } a (World.setObj w p.rb (.map arr' clock')) ∧ Step β μ σ w β μ { σ with h := σ.h.set b (.map es' clock') } (World.setObj w p.rb (.map arr' clock')) := by
  have hlt : p.rb < w.heap.size := (Array.getElem?_eq_some_iff.1 hh).1
  exact ⟨(hS.write (x1 := .map es' clock') hb rfl hβ (fun q _ hq => setObj_other hq) ⟨h0, arr', setObj_same hlt, hall⟩).wider hN, Step.write (same_setObj w _ _) hb rfl hβ fun q _ hq => setObj_other hq⟩

theorem all2_set {α γ : Type} {R : α → γ → Prop} {x : α} {y : γ} (hxy : R x y) : ∀ {xs : List α} {ys : List γ} (i : Nat), All2 R xs ys → All2 R (xs.set i x) (ys.set i y)
  | [], [], _, _ => by simp [All2]
  | _ :: _, _ :: _, 0, h => ⟨hxy, h.2⟩
  | _ :: _, _ :: _, i + 1, h => ⟨h.1, all2_set hxy i h.2⟩
  | [], _ :: _, _, h => h.elim
  | _ :: _, [], _, h => h.elim

theorem all2_eraseIdx {α γ : Type} {R : α → γ → Prop} : ∀ {xs : List α} {ys : List γ} (i : Nat), All2 R xs ys → All2 R (xs.eraseIdx i) (ys.eraseIdx i)
  | [], [], _, _ => by simp [All2]
  | _ :: _, _ :: _, 0, h => h.2
  | _ :: _, _ :: _, i + 1, h => ⟨h.1, all2_eraseIdx i h.2⟩
  | [], _ :: _, _, h => h.elim
  | _ :: _, [], _, h => h.elim

theorem sameBits_cells (d : Nat) : ∀ {ks : List CK} {xs ys : List Value}, eqK ks (xs.map .lit) (ys.map .lit) = some true → xs.length = ys.length ∧ ((xs.zip ys).all fun (x, y) => Instr.sameBits d x y) = true
  | [], [], [], _ => ⟨rfl, rfl⟩
  | k :: ks, x :: xs, y :: ys, h => by
    simp only [List.map_cons, eqK] at h
    split at h
    · rename_i b1 b2 h1 h2
      simp only [Option.some.injEq, Bool.and_eq_true] at h
      obtain ⟨rfl, rfl⟩ := h
      obtain ⟨g1, g2⟩ := sameBits_cells d h2
      refine ⟨by simp [g1], ?_⟩
      simp only [List.zip_cons_cons, List.all_cons, g2, Bool.and_true]
      cases k with
      | i => obtain ⟨_, _, _, rfl, rfl, h3⟩ := keyEq_i (u := x) (u' := y) h1; simp [Instr.sameBits]; simpa using h3.symm
      | b => obtain ⟨_, _, rfl, rfl, h3⟩ := keyEq_b (u := x) (u' := y) h1; simp [Instr.sameBits]; simpa using h3.symm
      | s => obtain ⟨_, _, rfl, rfl, h3⟩ := keyEq_s (u := x) (u' := y) h1; simp [Instr.sameBits, bytes_beq]; exact h3.symm
    · cases h
  | [], [], _ :: _, h => by simp [eqK] at h
  | [], _ :: _, _, h => by simp [eqK] at h
  | _ :: _, [], _, h => by simp [eqK] at h
  | _ :: _, _ :: _, [], h => by simp [eqK] at h

theorem keyEq_swap {d : KD} {k k' : Value} (h : keyEq d k k' = some true) (n : Nat) : Instr.sameBits (n + 1) k' k = true := by
  cases d with
  | cell c =>
    cases c with
    | i => obtain ⟨_, i, j, rfl, rfl, h3⟩ := keyEq_i h; have h4 : i = j := by simpa using h3.symm
           subst h4; simp [Instr.sameBits]
    | b => obtain ⟨i, j, rfl, rfl, h3⟩ := keyEq_b h; have h4 : i = j := by simpa using h3.symm
           subst h4; simp [Instr.sameBits]
    | s =>
      obtain ⟨i, j, rfl, rfl, h3⟩ := keyEq_s h
      have : i.data.toList = j.data.toList := by simpa [strEq] using h3.symm
      simp [Instr.sameBits, bytes_beq, strEq, this]
  | cells t ks =>
    obtain ⟨xs, ys, rfl, rfl, h3⟩ := keyEq_cells h
    have swap : ∀ {ks : List CK} {xs ys : List Value}, eqK ks (xs.map .lit) (ys.map .lit) = some true → eqK ks (ys.map .lit) (xs.map .lit) = some true := by
      intro ks
      induction ks with
      | nil => intro xs ys h; cases xs <;> cases ys <;> simp_all [eqK]
      | cons k ks ih =>
        intro xs ys h
        cases xs with
        | nil => simp [eqK] at h
        | cons x xs => cases ys with
          | nil => simp [eqK] at h
          | cons y ys =>
            simp only [List.map_cons, eqK] at h ⊢
            split at h
            · rename_i b1 b2 h1 h2
              simp only [Option.some.injEq, Bool.and_eq_true] at h
              obtain ⟨rfl, rfl⟩ := h
              rw [ih h2]
              cases k with
              | i => obtain ⟨_, _, _, rfl, rfl, h3⟩ := keyEq_i (u := x) (u' := y) h1; have := h3.symm; simp at this; subst this; simp [eqK1]
              | b => obtain ⟨_, _, rfl, rfl, h3⟩ := keyEq_b (u := x) (u' := y) h1; have := h3.symm; simp at this; subst this; simp [eqK1]
              | s =>
                obtain ⟨i, j, rfl, rfl, h3⟩ := keyEq_s (u := x) (u' := y) h1
                have h4 : i.data.toList = j.data.toList := by simpa [strEq] using h3.symm
                simp [eqK1, strEq, h4]
            · cases h
    obtain ⟨g1, g2⟩ := sameBits_cells n (swap h3)
    simp only [Instr.sameBits, Bool.and_eq_true]
    exact ⟨by simpa using g1, g2⟩

theorem run_keyStays {d : KD} {k k' : Value} (h : keyEq d k k' = some true) : (Instr.keyThatStays k' k).run P w = .ok k w := by
  unfold Instr.keyThatStays
  rw [if_pos (keyEq_swap h 9999)]
  rfl

theorem update_ok (hT : TtOk P X) (hF : FlatOk P X) (hN : N ≤ N') (hS : SRel N β μ nt σ a w) {t : TypeId} {c : C} {k : Value} {u : V} {x y : Value} (hx : CRel β μ c x) (hy : VRel β μ u y) (h : updateE X t σ c k u = some σ') :
    ∃ w', (Instr.mapUpdate t x k y).run P w = .ok () w' ∧ SRel N' β μ nt σ' a w' ∧ Step β μ σ w β μ σ' w' ∧ σ'.h.next = σ.h.next := by
  unfold updateE at h
  split at h
  case h_2 => cases h
  rename_i d et b hm
  obtain ⟨kt, e, i, hu, hkd, hie, hze⟩ := map_info hT hm
  split at h
  case h_2 => cases h
  rename_i es clock hb
  split at h
  case isFalse => cases h
  rename_i hck
  simp only [Bool.and_eq_true] at hck
  obtain ⟨hkok, hokv⟩ := hck
  obtain ⟨p, arr, hβ, rfl, h0, hh, hall⟩ := mp_ok hS hb hx
  have hcheck := check_ok (w := w) hF hkd hkok false
  split at h
  · rename_i q hfind
    obtain ⟨v0, n0⟩ := q
    simp only [Option.map_eq_some_iff] at h
    obtain ⟨es', hset, rfl⟩ := h
    obtain ⟨j, k', v1, n1, hidx, hget, rfl, hkeq⟩ := setK_some hset
    obtain ⟨en, hen, hrel⟩ := hall.get hget
    have hrun := findKey_ok (w := w) hF hkd hidx hall
    have hen' : arr[j]? = some en := by simpa using hen
    simp only [hen, Option.map_some] at hrun
    have hk' : en.key = k' := hrel.1
    have hmod : (arr.modify j fun e => { e with key := k, val := y }).toList = arr.toList.set j { en with key := k, val := y } := by
      apply List.ext_getElem?
      intro m
      simp only [Array.getElem?_toList, Array.getElem?_modify, List.getElem?_set]
      by_cases hjm : j = m
      · subst hjm
        have hlt : j < arr.size := (Array.getElem?_eq_some_iff.1 hen').1
        simp [hlt]
        rw [(Array.getElem?_eq_some_iff.1 hen').2]
      · simp [hjm]
    obtain ⟨g1, g2⟩ := setMap_ok (es' := es.set j (k, u, n1)) (clock' := clock) (arr' := arr.modify j fun e => { e with key := k, val := y }) hN hS hb hβ h0 hh (by
      rw [hmod]
      exact all2_set ⟨rfl, vrel_noF hokv hy, hrel.2.2⟩ j hall)
    refine ⟨_, ?_, g1, g2, rfl⟩
    simp only [Instr.mapUpdate, Sem.run_bind, run_underlying hu w, Result.andThen_ok, run_getMap hh, hcheck, hrun, hen', Option.map_some, Option.getD_some, hk', run_keyStays hkeq]
    exact run_setMap hh
  · rename_i hfind
    simp only [Option.some.injEq] at h
    subst h
    have hrun := findKey_ok (w := w) hF hkd (findK_none hfind) hall
    simp only at hrun
    obtain ⟨g1, g2⟩ := setMap_ok (es' := es ++ [(k, u, clock)]) (clock' := clock + 1) (arr' := arr.push { key := k, val := y, born := clock }) hN hS hb hβ h0 hh (by
      simp only [Array.toList_push]
      exact hall.append ⟨⟨rfl, vrel_noF hokv hy, rfl⟩, trivial⟩)
    refine ⟨_, ?_, g1, g2, rfl⟩
    simp only [Instr.mapUpdate, Sem.run_bind, run_underlying hu w, Result.andThen_ok, run_getMap hh, hcheck, hrun]
    exact run_setMap hh
  · cases h

theorem op_mapUpdate (hT : TtOk P X) (hF : FlatOk P X) (hN : N ≤ N') (hS : SRel N β μ nt σ a w) {t : TypeId} {m x y : Operand} (ho : o.op = .mapUpdate t m x y ∨ o.op = .insert t m x y) (h : op P X fi nm o σ = some (v, σ')) : OpOk P fi N' nm β μ nt σ a w o v σ' := by
  have h' : (onC σ m fun c => onV σ x fun kv => onV σ y fun v => match kv.val? with
    | some kv => (updateE X t σ c kv v).map fun σ' => (undefC, σ')
    | none => none) = some (v, σ') := by
    rcases ho with ho | ho <;> (simp only [op, ho] at h; exact h)
  obtain ⟨c, h3, h4⟩ := onC_some h'
  obtain ⟨kv, h5, h6⟩ := onV_some h4
  obtain ⟨u, h7, h8⟩ := onV_some h6
  split at h8
  case h_2 => cases h8
  rename_i k hk
  have hxk : a.eval x = k := val_ok hk (ev_ok hS h5)
  simp only [Option.map_eq_some_iff, Prod.mk.injEq] at h8
  obtain ⟨σ1, h9, rfl, rfl⟩ := h8
  obtain ⟨w', g1, g2, g3, g4⟩ := update_ok (P := P) hT hF hN hS (ev_ok hS h3) (ev_ok hS h7) h9
  refine ⟨.skip, undef, w', β, μ, ?_, .inr ⟨rfl, rfl⟩, rfl, g2, g3, fun _ _ => rfl, fun _ _ => rfl, g4⟩
  unfold execOp
  rcases ho with ho | ho <;> simp only [ho, hxk, Sem.run_bind, g1, Result.andThen_ok] <;> rfl

theorem op_delete (hT : TtOk P X) (hF : FlatOk P X) (hN : N ≤ N') (hS : SRel N β μ nt σ a w) {ts : Array TypeId} {t : TypeId} (ht : ts[0]? = some t) {c : C} {k x : Value} (hx : CRel β μ c x)
    (h : deleteE X t σ c k = some σ') {ty : TypeId} (hrun : ∀ y w', (Builtin.delete_ ts ty #[x, k]).run P w = .ok y w' → (execOp a.eval o).run P w = .ok (.value y) w') : OpOk P fi N' nm β μ nt σ a w o (.one (.lit (.tuple #[]))) σ' := by
  unfold deleteE at h
  split at h
  case h_2 => cases h
  rename_i d et b hm
  obtain ⟨kt, e, i, hu, hkd, hie, hze⟩ := map_info hT hm
  split at h
  case h_2 => cases h
  rename_i es clock hb
  split at h
  case isFalse => cases h
  rename_i hkok
  obtain ⟨p, arr, hβ, rfl, h0, hh, hall⟩ := mp_ok hS hb hx
  have hcheck := check_ok (w := w) hF hkd hkok arr.isEmpty
  simp only [Option.map_eq_some_iff] at h
  obtain ⟨es', hdrop, rfl⟩ := h
  rcases dropK_some hdrop with ⟨j, hidx, hlt, rfl⟩ | ⟨hidx, rfl⟩
  · have hfk := findKey_ok (w := w) hF hkd hidx hall
    have hlen := hall.length
    have hja : j < arr.size := by simp at hlen; omega
    have hen : arr.toList[j]? = some arr[j] := by simp [hja]
    simp only [hen, Option.map_some] at hfk
    obtain ⟨g1, g2⟩ := setMap_ok (es' := es.eraseIdx j) (clock' := clock) (arr' := arr.eraseIdxIfInBounds j) hN hS hb hβ h0 hh (by
      rw [Array.eraseIdxIfInBounds, dif_pos hja, Array.toList_eraseIdx]
      exact all2_eraseIdx j hall)
    refine ⟨_, .tuple #[], _, β, μ, hrun _ _ ?_, .inl rfl, rfl, g1, g2, fun _ _ => rfl, fun _ _ => rfl, rfl⟩
    simp [Builtin.delete_, ht, run_underlying hu, run_getMap hh, hcheck, hfk, run_setMap hh]
  · have hfk := findKey_ok (w := w) hF hkd hidx hall
    simp only at hfk
    obtain ⟨g1, g2⟩ := setMap_ok (es' := es') (clock' := clock) (arr' := arr) hN hS hb hβ h0 hh hall
    refine ⟨_, .tuple #[], _, β, μ, hrun _ _ ?_, .inl rfl, rfl, g1, g2, fun _ _ => rfl, fun _ _ => rfl, rfl⟩
    simp [Builtin.delete_, ht, run_underlying hu, run_getMap hh, hcheck, hfk, run_setMap hh]
end ops
end E
end Go.Proofs.Ytnfehccnofhmnaa

/-
  An abstract machine of this place's own: every operation at once. No condition.
-/
namespace Go.Proofs.Ytnfehccnofhmnaa
open Go.RowKit
namespace E
section ops
variable {P : Program} {X : Ctx} {fi : Fi} {N N' nm : Nat} {β : Pls} {μ : Fms} {nt : Nat} {σ σ' : St} {a : Act} {w : World} {o : Oper} {v : V}

theorem zeros_all {z : List C} (h : z.all C.ok = true) : ∀ n, (zerosC z n).all C.ok = true
  | 0 => rfl
  | n + 1 => by simp [zerosC, h, zeros_all h n]

theorem op_clear (hT : TtOk P X) (hN : N ≤ N') (hS : SRel N β μ nt σ a w) {ts : Array TypeId} {c : C} {x : Value} {vs : List V} (hvs : vs = [.one c]) (hx : CRel β μ c x)
    (h : builtinE X nm σ .clear ts.toList vs = some (v, σ')) {ty : TypeId} (hrun : ∀ y w', (Builtin.clear_ ts ty #[x]).run P w = .ok y w' → (execOp a.eval o).run P w = .ok (.value y) w') : OpOk P fi N' nm β μ nt σ a w o v σ' := by
  subst hvs
  obtain ⟨ts⟩ := ts
  cases ts with
  | nil => simp [builtinE] at h
  | cons t rest =>
    simp only [builtinE] at h
    split at h
    case h_2 => cases h
    rename_i et st b q len cap het hst
    split at h
    case h_2 => cases h
    rename_i e z sz cs hd hzc hb
    obtain ⟨i, hi, hs, hby, hz, hue, hu⟩ := elem_info hT hst (.inl hd) (elemTI_slice hst hd het)
    rw [hd] at hu
    have hx0 := hx
    obtain ⟨p, k, rc, hβ, rfl, hlc, hcr, hk, hgrow⟩ := hx
    split at h
    · rename_i hck
      simp only [Bool.and_eq_true, decide_eq_true_eq] at hck
      obtain ⟨⟨⟨hzl, hzo⟩, hlen⟩, hpos⟩ := hck
      simp only [Option.map_eq_some_iff, Prod.mk.injEq] at h
      obtain ⟨cs', hw, rfl, rfl⟩ := h
      simp only [zeroC, Option.map_eq_some_iff] at hzc
      obtain ⟨zv, hzv, rfl⟩ := hzc
      have hzs : 0 < zv.cells.size := by simp at hzl; omega
      have hall := zeros_ok (β := β) (μ := μ) zv hzs len
      have hst' : storeC σ (.ptr b q) (zerosC (zv.cells.toList.map .lit) len) = some { σ with h := σ.h.set b (.row true sz cs') } := by
        unfold storeC
        rw [if_pos (zeros_all hzo len)]
        simp only [hb, hw, Option.map_some]
      have hk' := hk (by omega)
      subst hk'
      obtain ⟨r, k, w', hxe, hrun', hS', hst, hnx⟩ := storeC_ok (P := P) hN hS (c := .ptr b q) ⟨p, hβ, rfl⟩ hall hst'
      cases hxe
      refine ⟨_, .tuple #[], w', β, μ, hrun _ _ ?_, .inl rfl, rfl, hS', hst, fun _ _ => rfl, fun _ _ => rfl, rfl⟩
      obtain ⟨len', rfl⟩ : ∃ l, len = l + 1 := ⟨len - 1, by omega⟩
      simp only [Builtin.clear_]
      simp [run_underlying hu, zeroValue, typeInfo, hi, hz, hzv, Builtin.zeroCells]
      simp at hrun'
      rw [hrun']
      rfl
    · split at h
      · rename_i hl0
        simp only [Option.some.injEq, Prod.mk.injEq] at h
        obtain ⟨rfl, rfl⟩ := h
        subst hl0
        refine OpOk.val hN hS (x := .tuple #[]) (hrun _ _ ?_) rfl
        simp only [Builtin.clear_]
        simp [run_underlying hu]
      · cases h

theorem op_call (hT : TtOk P X) (hF : FlatOk P X) (hN : N ≤ N') (hnm : nm < N') (hβ : β nm = none) (hS : SRel N β μ nt σ a w) {c : Call} (ho : o.op = .call c) (h : op P X fi nm o σ = some (v, σ')) : OpOk P fi N' nm β μ nt σ a w o v σ' := by
  simp only [op, ho] at h
  split at h
  case h_2 => cases h
  rename_i b hcal
  split at h
  case h_2 => cases h
  rename_i vs hvs
  have hargs := evs_ok hS hvs
  have hrun := run_builtinOp (P := P) (a := a) (w := w) ho hcal
  have hmap : (c.args.map a.eval).toList = c.args.toList.map a.eval := by simp
  rw [← hmap] at hargs
  have one : ∀ {y z : V} {xs : List Value}, All2 (VRel β μ) [y] xs → ∃ x, xs = [x] ∧ VRel β μ y x := fun h => h.one
  cases b <;> try (simp [builtinE] at h; done)
  case len =>
    unfold builtinE at h
    split at h <;> try cases h
    case h_1 =>
      rename_i t rest c' hts
      obtain ⟨x, hx1, hx2⟩ := hargs.one
      have harr : c.args.map a.eval = #[x] := by rw [← Array.toList_inj]; exact hx1
      refine op_len (ts := c.argTypes) (ty := o.type) hT hN hS rfl hx2 (nm := nm) (by rw [hts]; unfold builtinE; exact h) fun y w' hy => ?_
      rw [hrun, harr]
      simp [builtin, hy]
    all_goals first | (cases ‹Builtin.len = _›) | skip
  case append =>
    unfold builtinE at h
    split at h
    · cases ‹Builtin.append = _›
    · rename_i t t' s x hts
      split at h
      case isFalse => cases h
      rename_i htt
      subst htt
      split at h
      case h_2 => cases h
      rename_i ti st het hst
      split at h
      case h_2 => cases h
      rename_i e hd
      simp only [Option.map_eq_some_iff, Prod.mk.injEq] at h
      obtain ⟨p, hp, rfl, rfl⟩ := h
      match hxs : (c.args.map a.eval).toList, hargs with
      | [us, ux], hargs =>
        have harr := list2 hxs
        have hty := list2 hts
        refine op_append (by simp [makes, ho, hcal]) (ty := o.type) hT hN hnm hβ hS hst hd (elemTI_slice hst hd het) hargs.1 hargs.2.1 hp fun y w' hy => ?_
        rw [hrun, harr, hty]
        simp [builtin, hy]
    · cases ‹Builtin.append = _›
    · cases ‹Builtin.append = _›
    · cases h
  case delete =>
    unfold builtinE at h
    split at h
    · cases ‹Builtin.delete = _›
    · cases ‹Builtin.delete = _›
    · rename_i t rest m k hts
      split at h
      case h_2 => cases h
      rename_i kv hk
      simp only [Option.map_eq_some_iff, Prod.mk.injEq] at h
      obtain ⟨σ1, h1, rfl, rfl⟩ := h
      match hxs : (c.args.map a.eval).toList, hargs with
      | [um, uk], hargs =>
        have harr := list2 hxs
        have huk : uk = kv := val_ok hk hargs.2.1
        subst huk
        refine op_delete (ts := c.argTypes) (ty := o.type) hT hF hN hS (by rw [← Array.getElem?_toList, ‹c.argTypes.toList = _›]; rfl) hargs.1 h1 fun y w' hy => ?_
        rw [hrun, harr]
        simp [builtin, hy]
    · cases ‹Builtin.delete = _›
    · cases h
  case clear =>
    unfold builtinE at h
    split at h
    · cases ‹Builtin.clear = _›
    · cases ‹Builtin.clear = _›
    · cases ‹Builtin.clear = _›
    · rename_i t rest c' hts
      obtain ⟨x, hx1, hx2⟩ := hargs.one
      have harr : c.args.map a.eval = #[x] := by rw [← Array.toList_inj]; exact hx1
      refine op_clear (ts := c.argTypes) (ty := o.type) hT hN hS rfl hx2 (nm := nm) (by rw [hts]; unfold builtinE; exact h) fun y w' hy => ?_
      rw [hrun, harr]
      simp [builtin, hy]
    · cases h

theorem op_ok (hT : TtOk P X) (hF : FlatOk P X) (hN : N ≤ N') (hnm : nm < N') (hβ : β nm = none) (hS : SRel N β μ nt σ a w) (h : op P X fi nm o σ = some (v, σ')) : OpOk P fi N' nm β μ nt σ a w o v σ' := by
  cases ho : o.op with
  | move x => exact op_move hN hS (.inl ho) (by simpa only [op, ho] using h)
  | assign x => exact op_move hN hS (.inr ho) (by simpa only [op, ho] using h)
  | pick c x y => exact op_pick hN hS ho h
  | extract x i => exact op_extract hN hS ho h
  | alloc e => exact op_alloc hT hN hnm hβ hS ho h
  | box e x => exact op_box hN hnm hβ hS ho h
  | load t x => exact op_load hT hN hS ho h
  | store t x y => exact op_store hT hN hS ho h
  | nilCheck x => exact op_nilCheck hN hS ho h
  | fieldAddr t x f => exact op_fieldAddr hT hN hS ho h
  | field t x f => exact op_field hT hN hS ho h
  | indexAddr t x y => exact op_indexAddr hT hN hS ho h
  | index t x y => exact op_index hT hN hS ho h
  | slice t x lo hi mx => exact op_slice hT hN hS ho h
  | build t ps => exact op_build hT hN hS ho h
  | buildSlice t n ps => exact op_buildSlice hT hN hnm hβ hS ho h
  | makeSlice t l c => exact op_makeSlice hT hN hnm hβ hS ho h
  | makeMap t r =>
    cases r with
    | none => exact op_makeMap hN hnm hβ hS ho h
    | some r => simp [op, ho] at h
  | lookup t x y ok => exact op_lookup hT hF hN hS ho h
  | mapUpdate t m x y => exact op_mapUpdate hT hF hN hS (.inl ho) h
  | insert t m x y => exact op_mapUpdate hT hF hN hS (.inr ho) h
  | makeFunc f fs caps =>
    cases f with
    | func f => exact op_makeFunc hN hS ho h
    | _ => simp [op, ho] at h
  | binOp b t x y t' => exact op_binOp hT hF hN hS ho h
  | call c => exact op_call hT hF hN hnm hβ hS ho h
  | unOp u t x => exact op_pure hN hS (fun _ _ => by rw [ho]; exact fun h => by cases h) (by simpa only [op, ho] using h)
  | convert s t x => exact op_pure hN hS (fun _ _ => by rw [ho]; exact fun h => by cases h) (by simpa only [op, ho] using h)
  | _ => simp [op, ho] at h
end ops
end E
end Go.Proofs.Ytnfehccnofhmnaa

/-
  An abstract machine of this place's own: the code of a function, calls, regions in the text's order. No condition.
-/
namespace Go.Proofs.Ytnfehccnofhmnaa
open Go.RowKit
namespace E

inductive Ex where
  | norm
  | exit (id : Nat)
  | ret

/-- A call of a function does in every world that stands for the first heap what is said, and leaves one that stands for the second. -/
def ACall (P : Program) (f : FuncId) (args : List V) (h : Heap) (v : V) (h' : Heap) : Prop :=
  h.next ≤ h'.next ∧ (∃ fn, P.funcs[f]? = some fn ∧ fn.body.isSome = true ∧ fn.name ≠ "runtime.NumGoroutine") ∧ ∀ β w xs, HRel h.next β h w → All2 (VRel β noF) args xs →
    Calls P f xs.toArray w fun e w' => ∃ x β', e = .returned x ∧ VRel β' noF v x ∧ HRel h'.next β' h' w' ∧ Step β noF ⟨[], [], h⟩ w β' noF ⟨[], [], h'⟩ w' ∧ ∀ b, b < h.next → β' b = β b

def V.loose : V → Bool
  | .one c => match c with | .lp .. => false | _ => true
  | .agg cs => cs.all fun c => match c with | .lp .. => false | _ => true
  | .tup vs => vs.all fun v => match v with
    | .one (.lp ..) => false
    | .agg cs => cs.all fun c => match c with | .lp .. => false | _ => true
    | _ => true

section
variable (P : Program) (X : Ctx) (fi : Fi)

def wpOpsE (ops : List Oper) : List Oper → St → (St → Prop) → Prop
  | [], σ, K => K σ
  | o :: l, σ, K =>
    match wanted ops o σ with
    | some false => ∃ σ', put fi o.dst undefC σ = some σ' ∧ wpOpsE ops l σ' K
    | some true =>
      if isCall o then ∃ f args v h' σ', callee σ o = some (f, args) ∧ args.all V.loose = true ∧ ACall P f args σ.h v h' ∧ put fi o.dst v { σ with h := h' } = some σ' ∧ wpOpsE ops l σ' K
      else ∃ v σ1 σ', op P X fi σ.h.next o σ = some (v, σ1) ∧ put fi o.dst v { σ1 with h := bump fi o σ1.h } = some σ' ∧ wpOpsE ops l σ' K
    | none => False

def LoopW (f : St → (Ex → St → Prop) → Prop) : Nat → St → (Ex → St → Prop) → Prop
  | 0, _, _ => False
  | n + 1, σ, Q => f σ fun e σ' => match e with
    | .norm => LoopW f n σ' Q
    | e => Q e σ'
end

section sound
variable {P : Program} {X : Ctx} {fi : Fi} {N N' nm : Nat} {β : Pls} {μ : Fms} {nt : Nat} {σ σ' : St} {a : Act} {w : World} {o : Oper} {v : V}

theorem VRel.loose {v : V} {x : Value} (hl : v.loose = true) (hv : VRel β μ v x) : VRel β noF v x := by
  refine hv.ups (fun _ _ h => h) fun t r ht hr => ?_
  cases v with
  | one c => cases c <;> simp_all [V.loose, mentionsV, mentionsC]
  | agg cs =>
    simp only [mentionsV, List.any_eq_true] at ht
    obtain ⟨c, hc, ht⟩ := ht
    have := List.all_eq_true.1 hl c hc
    cases c <;> simp_all [mentionsC]
  | tup vs =>
    simp only [mentionsV, List.any_eq_true] at ht
    obtain ⟨u, hu, ht⟩ := ht
    have := List.all_eq_true.1 hl u hu
    cases u with
    | one c => cases c <;> simp_all [mentionsC]
    | agg cs =>
      simp only [List.any_eq_true] at ht
      obtain ⟨c, hc, ht⟩ := ht
      have h2 := List.all_eq_true.1 this c hc
      cases c <;> simp_all [mentionsC]
    | tup _ =>
      obtain ⟨l, _, hall⟩ := hv
      obtain ⟨i, hi⟩ := List.getElem?_of_mem hu
      obtain ⟨y, _, hy⟩ := hall.get hi
      exact hy.elim

/-- A slot is written. -/
theorem put_ok (hS : SRel N β μ fi.nt σ a w) {d : Option Nat} {x : Value} (hv : VRel β μ v x) (h : put fi d v σ = some σ') : SRel N β μ fi.nt σ' (a.put d x) w ∧ σ'.h = σ.h ∧ σ'.bx = σ.bx := by
  unfold put at h
  split at h
  · simp only [Option.some.injEq] at h
    subst h
    exact ⟨hS, rfl, rfl⟩
  · rename_i t
    split at h
    · rename_i hlt
      simp only [Option.some.injEq] at h
      subst h
      refine ⟨⟨hS.heap, by simp [Act.put, hS.size], hS.defers, fun u y hu => ?_, hS.box, hS.bxap, hS.hap⟩, rfl, rfl⟩
      have hu' : get ((t, v) :: σ.env) u = some y := hu
      rw [get_cons] at hu'
      by_cases h : t = u
      · subst h
        rw [if_pos rfl, Option.some.injEq] at hu'
        subst hu'
        refine ⟨x, ?_, hv⟩
        have := hS.size
        simp [Act.put, hlt, this]
      · rw [if_neg h] at hu'
        obtain ⟨z, h1, h2⟩ := hS.env u y hu'
        exact ⟨z, by simp [Act.put, Array.getElem?_setIfInBounds_ne h, h1], h2⟩
    · cases h

theorem yield_ok (hS : SRel N β μ nt σ a w) {ops : Array Oper} {b : Bool} (h : wanted ops.toList o σ = some b) : Region.wanted o (yielded ops a.tmps) = b := by
  unfold wanted at h
  unfold Region.wanted
  split at h
  · rename_i hg
    simp only [Option.some.injEq] at h
    subst h
    simp [hg]
  · rename_i j want hg
    simp only [hg]
    split at h
    · rename_i oj hj
      split at h
      · rename_i t ht
        split at h
        · rename_i q hq
          simp only [Option.some.injEq] at h
          subst h
          obtain ⟨x, h1, h2⟩ := hS.env t _ hq
          have hx : x = .bool q := h2
          subst hx
          have hj' : ops[j]? = some oj := by simpa using hj
          simp [yielded, hj', ht, h1]
        · rename_i l hq
          simp only [Option.some.injEq] at h
          subst h
          obtain ⟨x, h1, h2⟩ := hS.env t _ hq
          have hx : x = .tuple l := h2
          subst hx
          have hj' : ops[j]? = some oj := by simpa using hj
          simp [yielded, hj', ht, h1]
        · cases h
      · cases h
    · cases h

/-- What a call leaves, seen from the caller. -/
theorem call_back (hS : SRel N β μ nt σ a w) {β' : Pls} {h' : Heap} {w' : World} (hH : HRel N' β' h' w') (hst : Step β noF ⟨[], [], σ.h⟩ w β' noF ⟨[], [], h'⟩ w') :
    SRel N' β' μ nt { σ with h := h' } a w' ∧ Step β μ σ w β' μ { σ with h := h' } w' := by
  have hbox : ∀ t cs, get σ.bx t = some cs → ∃ r, μ t = some r ∧ XRel β r cs w ∧ w'.heap[r]? = w.heap[r]? := fun t cs ht => by
    obtain ⟨r, h1, h2⟩ := hS.box t cs ht
    refine ⟨r, h1, h2, hst.fr r h2.lt fun hm => ?_⟩
    rcases hm with ⟨b, x, p, g1, g2, g3, g4⟩ | ⟨u, ds, g1, g2⟩
    · exact hS.hap t cs b x p ht g1 g3 (by rw [h1, g4])
    · simp [get] at g1
  refine ⟨⟨hH, hS.size, hS.defers, fun t v ht => ?_, fun t cs ht => ?_, hS.bxap, fun t cs b x p ht hb hp he => ?_⟩, ?_⟩
  · obtain ⟨x, h1, h2⟩ := hS.env t v ht
    exact ⟨x, h1, h2.up hst.ext⟩
  · obtain ⟨r, h1, h2, h3⟩ := hbox t cs ht
    exact ⟨r, h1, h2.up hst.ext h3⟩
  · obtain ⟨r, h1, h2, h3⟩ := hbox t cs ht
    rw [h1, Option.some.injEq] at he
    rcases hst.blks b x p hb hp with ⟨b0, x0, p0, g1, g2, g3⟩ | hge
    · exact hS.hap t cs b0 x0 p0 ht g1 g2 (by rw [h1, he, g3])
    · have := h2.lt
      omega
  · refine ⟨hst.ext, hst.os, hst.tape, hst.output, hst.size, fun r hr hn => hst.fr r hr fun hm => ?_, fun r hm => ?_, fun b x p h1 h2 => hst.blks b x p h1 h2⟩
    · rcases hm with g | ⟨u, ds, g1, g2⟩
      · exact hn (.inl g)
      · simp [get] at g1
    · rcases hm with g | ⟨u, ds, g1, g2⟩
      · rcases hst.own r (.inl g) with (g | ⟨u, ds, g1, g2⟩) | hge
        · exact .inl (.inl g)
        · simp [get] at g1
        · exact .inr hge
      · exact .inl (.inr ⟨u, ds, g1, g2⟩)

theorem callee_ok (hS : SRel N β μ nt σ a w) {f : FuncId} {args : List V} (h : callee σ o = some (f, args)) (hl : args.all V.loose = true)
    (hf : ∃ fn, P.funcs[f]? = some fn ∧ fn.body.isSome = true ∧ fn.name ≠ "runtime.NumGoroutine") : ∃ xs : List Value, All2 (VRel β noF) args xs ∧ (execOp a.eval o).run P w = .ok (.enter f xs.toArray) w := by
  unfold callee at h
  split at h
  case h_2 => cases h
  rename_i c ho
  split at h
  case h_2 => cases h
  rename_i fo hc
  split at h
  case h_2 => cases h
  rename_i g caps vs hfo hvs
  simp only [Option.some.injEq, Prod.mk.injEq] at h
  obtain ⟨rfl, rfl⟩ := h
  obtain ⟨l, hfx, hcaps⟩ := ev_ok hS hfo
  have hargs := evs_ok hS hvs
  rw [List.all_append, Bool.and_eq_true] at hl
  refine ⟨c.args.toList.map a.eval ++ l.toList, ?_, ?_⟩
  · refine All2.append (hargs.mono fun u hu y hy => hy.loose (List.all_eq_true.1 hl.1 u hu)) (All2.map_left ?_)
    exact hcaps.mono fun q _ y hy => by
      obtain ⟨p, h1, h2⟩ := hy
      exact ⟨p, h1, h2⟩
  · obtain ⟨fn, hfn, hb, hnm⟩ := hf
    have hnone : fn.body.isNone = false := by cases h : fn.body <;> simp_all
    have hname : (fn.name == "runtime.NumGoroutine") = false := by simpa using hnm
    unfold execOp
    simp only [ho, resolve, hc, Sem.run_bind, hfx, Deferred.ofValue, Sem.run_pure, Result.andThen_ok, invoke, callFunc, program, Sem.run, hfn, hname, hnone, Bool.false_eq_true, if_false]
    congr 2
    apply Array.ext'
    simp
end sound
end E
end Go.Proofs.Ytnfehccnofhmnaa

/-
  An abstract machine of this place's own: what it computes of a function's code is what the model does. No condition.
-/
namespace Go.Proofs.Ytnfehccnofhmnaa
open Go.RowKit
namespace E

section
variable (P : Program) (X : Ctx) (fi : Fi) (D : Nat → List Oper → St → (St → Prop) → Prop)

/-- What holds behind a code: D: of a region that draws its order. -/
def WP : Code → St → (Ex → St → Prop) → Prop
  | .skip, σ, Q => Q .norm σ
  | .ret, σ, Q => Q .ret σ
  | .exit id, σ, Q => Q (.exit id) σ
  | .seq a b, σ, Q => WP a σ fun e σ' => match e with
    | .norm => WP b σ' Q
    | e => Q e σ'
  | .cond c a b, σ, Q => match ev σ c with
    | some (.one (.lit (.bool true))) => WP a σ Q
    | some (.one (.lit (.bool false))) => WP b σ Q
    | _ => False
  | .block id c, σ, Q => WP c σ fun e σ' => match e with
    | .exit id' => if id' = id then Q .norm σ' else Q (.exit id') σ'
    | e => Q e σ'
  | .loop c, σ, Q => ∃ n, LoopW (WP c) n σ Q
  | .region id ops draw, σ, Q => if draw then D id ops.toList σ fun σ' => Q .norm (clean fi id σ') else wpOpsE P X fi ops.toList ops.toList σ fun σ' => Q .norm (clean fi id σ')
  | _, _, _ => False
end

section sound
variable {P : Program} {X : Ctx} {fi : Fi} {D : Nat → List Oper → St → (St → Prop) → Prop}

def ExRel : Exit → Ex → Prop
  | .normal, .norm => True
  | .exit i, .exit j => i = j
  | .ret, .ret => True
  | _, _ => False

/-- What a region that draws its order has to come to. -/
def DrawOk (P : Program) (fi : Fi) (D : Nat → List Oper → St → (St → Prop) → Prop) : Prop :=
  ∀ (id : Nat) (ops : Array Oper) (σ : St) (K : St → Prop) (β : Pls) (μ : Fms) (a : Act) (w : World) (Q : Exit → Act → World → Prop), D id ops.toList σ K → SRel σ.h.next β μ fi.nt σ a w →
    (∀ σ' β' μ' a' w', K σ' → SRel σ'.h.next β' μ' fi.nt σ' a' w' → Step β μ σ w β' μ' σ' w' → σ.h.next ≤ σ'.h.next → (∀ b, b < σ.h.next → β' b = β b) → Q .normal a' w') → (Code.region id ops true).wp P Q a w

theorem wpOpsE_sound (hT : TtOk P X) (hF : FlatOk P X) {ops : Array Oper} {Q : Exit → Act → World → Prop} : ∀ (l : List Oper) (σ : St) (K : St → Prop) (β : Pls) (μ : Fms) (a : Act) (w : World), wpOpsE P X fi ops.toList l σ K → SRel σ.h.next β μ fi.nt σ a w →
    (∀ σ' β' μ' a' w', K σ' → SRel σ'.h.next β' μ' fi.nt σ' a' w' → Step β μ σ w β' μ' σ' w' → σ.h.next ≤ σ'.h.next → (∀ b, b < σ.h.next → β' b = β b) → Q .normal a' w') → wpList P ops Q l a w
  | [], σ, K, β, μ, a, w, h, hS, hQ => hQ σ β μ a w h hS (Step.refl _ _ _ _) (Nat.le_refl _) (fun _ _ => rfl)
  | o :: l, σ, K, β, μ, a, w, h, hS, hQ => by
    simp only [wpOpsE] at h
    unfold wpList
    split at h
    · rename_i hw
      obtain ⟨σ', hp, h'⟩ := h
      rw [yield_ok hS hw, if_neg (by simp)]
      obtain ⟨g1, g2, g3⟩ := put_ok hS (v := undefC) (x := undef) rfl hp
      refine wpOpsE_sound hT hF l σ' K β μ _ w h' (by rw [g2]; exact g1) fun σ2 β2 μ2 a2 w2 k1 k2 k3 k4 k5 => hQ σ2 β2 μ2 a2 w2 k1 k2 ⟨k3.ext, k3.os, k3.tape, k3.output, k3.size, fun r hr hn => k3.fr r hr fun hm => hn ?_, fun r hm => (k3.own r hm).imp ?_ id, fun b x p e1 e2 => (k3.blks b x p e1 e2).imp ?_ id⟩ (by rw [← g2]; exact k4) (by rw [← g2]; exact k5)
      · simpa only [mine, g2, g3] using hm
      · intro hm; simpa only [mine, g2, g3] using hm
      · intro hm; simpa only [g2] using hm
    · rename_i hw
      rw [yield_ok hS hw, if_pos rfl]
      refine .inl ?_
      split at h
      · obtain ⟨f, args, v, h', σ', hc, hl, hA, hp, h2⟩ := h
        obtain ⟨hnx, hfn, hcall⟩ := hA
        obtain ⟨xs, hxs, hrun⟩ := callee_ok (P := P) hS hc hl hfn
        unfold Oper.wp
        rw [hrun, Oper.upon_enter]
        refine (hcall β w xs hS.heap hxs).mono fun e w' he => ?_
        obtain ⟨x, β', rfl, hv, hH, hst, hold⟩ := he
        obtain ⟨g1, g2⟩ := call_back hS hH hst
        obtain ⟨k1, k2, k3⟩ := put_ok g1 (hv.ups (μ' := μ) (fun _ _ h => h) (fun _ _ _ h => by cases h)) hp
        refine wpOpsE_sound hT hF l σ' K β' μ _ w' h2 (by rw [k2]; exact k1) fun σ2 β2 μ2 a2 w2 m1 m2 m3 m4 m5 => hQ σ2 β2 μ2 a2 w2 m1 m2 (g2.trans ⟨m3.ext, m3.os, m3.tape, m3.output, m3.size, fun r hr hn => m3.fr r hr fun hm => hn ?_, fun r hm => (m3.own r hm).imp ?_ id, fun b x p e1 e2 => (m3.blks b x p e1 e2).imp ?_ id⟩) (Nat.le_trans hnx (by rw [k2] at m4; exact m4)) (fun b hb => (m5 b (by rw [k2]; exact Nat.lt_of_lt_of_le hb hnx)).trans (hold b hb))
        · simpa only [mine, k2, k3] using hm
        · intro hm; simpa only [mine, k2, k3] using hm
        · intro hm; simpa only [k2] using hm
      · obtain ⟨v, σ1, σ', hop, hp, h2⟩ := h
        obtain ⟨n, x, w', β', μ', hrun, hn, hv, hS1, hst, hnm, hμ, hnx⟩ := op_ok (P := P) (N' := σ.h.next + 1) (nm := σ.h.next) hT hF (Nat.le_succ _) (Nat.lt_succ_self _) (hS.heap.fresh _ (Nat.le_refl _)) hS hop
        have hS2 : SRel (bump fi o σ1.h).next β' μ' fi.nt { σ1 with h := bump fi o σ1.h } a w' := by
          have hget : ∀ b, (bump fi o σ1.h).get b = σ1.h.get b := fun b => by
            unfold bump
            cases makes fi o <;> rfl
          refine ⟨⟨fun b hb => ?_, fun b y hy => hS1.heap.blk b y (by rw [← hget]; exact hy), fun b b' y y' p p' e0 e1 e2 => hS1.heap.apart b b' y y' p p' e0 (by rw [← hget]; exact e1) (by rw [← hget]; exact e2)⟩, hS1.size, hS1.defers, hS1.env, hS1.box, hS1.bxap, fun t cs b y p e1 e2 => hS1.hap t cs b y p e1 (by rw [← hget]; exact e2)⟩
          unfold bump at hb
          cases hmk : makes fi o with
          | true =>
            rw [hmk, cond_true] at hb
            exact hS1.heap.fresh b (by simp only at hb; omega)
          | false =>
            rw [hmk, cond_false] at hb
            rw [hnm b (.inr hmk)]
            exact hS.heap.fresh b (by omega)
        obtain ⟨k1, k2, k3⟩ := put_ok hS2 hv hp
        have hbx : { σ1 with h := bump fi o σ1.h }.bx = σ1.bx := rfl
        have hget : ∀ b, σ'.h.get b = σ1.h.get b := fun b => by
          rw [k2]
          show (bump fi o σ1.h).get b = _
          unfold bump
          cases makes fi o <;> rfl
        have hmine : ∀ r, mine β' μ' σ' r → mine β' μ' σ1 r := fun r hm => by
          rcases hm with ⟨b, y, p, e1, e2, e3, e4⟩ | ⟨t, cs, e1, e2⟩
          · exact .inl ⟨b, y, p, by rw [← hget]; exact e1, e2, e3, e4⟩
          · exact .inr ⟨t, cs, by rw [k3] at e1; exact e1, e2⟩
        have hmine' : ∀ r, mine β' μ' σ1 r → mine β' μ' σ' r := fun r hm => by
          rcases hm with ⟨b, y, p, e1, e2, e3, e4⟩ | ⟨t, cs, e1, e2⟩
          · exact .inl ⟨b, y, p, by rw [hget]; exact e1, e2, e3, e4⟩
          · exact .inr ⟨t, cs, by rw [k3]; exact e1, e2⟩
        have hle : σ.h.next ≤ σ'.h.next := by
          rw [k2]
          show _ ≤ (bump fi o σ1.h).next
          unfold bump
          cases makes fi o with
          | true => show _ ≤ σ1.h.next + 1; omega
          | false => show _ ≤ σ1.h.next; omega
        have key : wpList P ops Q l (a.put o.dst x) w' := by
          refine wpOpsE_sound hT hF l σ' K β' μ' _ w' h2 (by rw [k2]; exact k1) fun σ2 β2 μ2 a2 w2 m1 m2 m3 m4 m5 => hQ σ2 β2 μ2 a2 w2 m1 m2 (hst.trans ⟨m3.ext, m3.os, m3.tape, m3.output, m3.size, fun r hr hn => m3.fr r hr fun hm => hn (hmine r hm), fun r hm => (m3.own r hm).imp (hmine r) id, fun b y p e1 e2 => (m3.blks b y p e1 e2).imp ?_ id⟩) (Nat.le_trans hle m4) (fun b hb => (m5 b (Nat.lt_of_lt_of_le hb hle)).trans (hnm b (.inl (by omega))))
          rintro ⟨b0, x0, p0, e1, e2, e3⟩
          exact ⟨b0, x0, p0, by rw [← hget]; exact e1, e2, e3⟩
        unfold Oper.wp
        rw [hrun]
        rcases hn with rfl | ⟨rfl, rfl⟩
        · exact key
        · exact key
    · exact h.elim

/-- What is forgotten behind a region. -/
theorem get_keepEnv {l : List Nat} {env : List (Nat × V)} {t : Nat} {v : V} : get (keepEnv l env) t = some v → get env t = some v := by
  induction l with
  | nil => intro h; simp [keepEnv, get] at h
  | cons u l ih =>
    intro h
    simp only [keepEnv, List.filterMap_cons] at h
    cases hu : get env u with
    | none => rw [hu] at h; exact ih h
    | some y =>
      rw [hu] at h
      simp only [Option.map_some] at h
      rw [get_cons] at h
      split at h
      · rename_i he
        subst he
        simp only [Option.some.injEq] at h
        subst h
        exact hu
      · exact ih h

theorem get_keepBx {l : List Nat} {bx : List (Nat × List C)} {t : Nat} {v : List C} : get (keepBx l bx) t = some v → get bx t = some v := by
  induction l with
  | nil => intro h; simp [keepBx, get] at h
  | cons u l ih =>
    intro h
    simp only [keepBx, List.filterMap_cons] at h
    cases hu : get bx u with
    | none => rw [hu] at h; exact ih h
    | some y =>
      rw [hu] at h
      simp only [Option.map_some] at h
      rw [get_cons] at h
      split at h
      · rename_i he
        subst he
        simp only [Option.some.injEq] at h
        subst h
        exact hu
      · exact ih h

theorem clean_ok {N : Nat} {β : Pls} {μ : Fms} {nt id : Nat} {σ : St} {a : Act} {w : World} (hS : SRel N β μ nt σ a w) : SRel N β μ nt (clean fi id σ) a w ∧ Step β μ σ w β μ (clean fi id σ) w ∧ (clean fi id σ).h = σ.h := by
  unfold clean
  split
  · rename_i l hl
    refine ⟨⟨hS.heap, hS.size, hS.defers, fun t v h => hS.env t v (get_keepEnv h), fun t cs h => hS.box t cs (get_keepBx h), fun t t' cs cs' r h0 h1 h2 => hS.bxap t t' cs cs' r h0 (get_keepBx h1) (get_keepBx h2), fun t cs b x p h1 => hS.hap t cs b x p (get_keepBx h1)⟩,
      ⟨fun _ _ h => h, rfl, rfl, rfl, Nat.le_refl _, fun _ _ _ => rfl, fun r hm => .inl ?_, fun b x p h1 h2 => .inl ⟨b, x, p, h1, h2, rfl⟩⟩, rfl⟩
    rcases hm with h | ⟨t, cs, h1, h2⟩
    · exact .inl h
    · exact .inr ⟨t, cs, get_keepBx h1, h2⟩
  · exact ⟨hS, Step.refl _ _ _ _, rfl⟩

/-- What stands behind a code, in the model. -/
def Post (fi : Fi) (β : Pls) (μ : Fms) (σ : St) (w : World) (Q : Ex → St → Prop) : Exit → Act → World → Prop := fun e a' w' =>
  ∃ ex σ' β' μ', ExRel e ex ∧ Q ex σ' ∧ SRel σ'.h.next β' μ' fi.nt σ' a' w' ∧ Step β μ σ w β' μ' σ' w' ∧ σ.h.next ≤ σ'.h.next ∧ ∀ b, b < σ.h.next → β' b = β b

theorem WP_sound (hT : TtOk P X) (hF : FlatOk P X) (hD : DrawOk P fi D) : ∀ (c : Code) (σ : St) (Q : Ex → St → Prop) (β : Pls) (μ : Fms) (a : Act) (w : World), WP P X fi D c σ Q → SRel σ.h.next β μ fi.nt σ a w → c.wp P (Post fi β μ σ w Q) a w
  | .skip, σ, Q, β, μ, a, w, h, hS => wp_skip ⟨.norm, σ, β, μ, trivial, h, hS, Step.refl _ _ _ _, Nat.le_refl _, fun _ _ => rfl⟩
  | .ret, σ, Q, β, μ, a, w, h, hS => wp_ret ⟨.ret, σ, β, μ, trivial, h, hS, Step.refl _ _ _ _, Nat.le_refl _, fun _ _ => rfl⟩
  | .exit id, σ, Q, β, μ, a, w, h, hS => wp_exit ⟨.exit id, σ, β, μ, rfl, h, hS, Step.refl _ _ _ _, Nat.le_refl _, fun _ _ => rfl⟩
  | .seq c d, σ, Q, β, μ, a, w, h, hS => by
    refine wp_seq (Go.wp_mono (WP_sound hT hF hD c σ _ β μ a w h hS) fun e a' w' he => ?_)
    obtain ⟨ex, σ', β', μ', h1, h2, h3, h4, h5, h6⟩ := he
    cases e <;> cases ex <;> simp only [ExRel] at h1
    · exact Go.wp_mono (WP_sound hT hF hD d σ' _ β' μ' a' w' h2 h3) fun e a2 w2 ⟨ex, σ2, β2, μ2, k1, k2, k3, k4, k5, k6⟩ => ⟨ex, σ2, β2, μ2, k1, k2, k3, h4.trans k4, Nat.le_trans h5 k5, fun b hb => (k6 b (Nat.lt_of_lt_of_le hb h5)).trans (h6 b hb)⟩
    · subst h1
      exact ⟨.exit _, σ', β', μ', rfl, h2, h3, h4, h5, h6⟩
    · exact ⟨.ret, σ', β', μ', trivial, h2, h3, h4, h5, h6⟩
  | .cond x c d, σ, Q, β, μ, a, w, h, hS => by
    simp only [WP] at h
    split at h
    · rename_i hx
      exact wp_cond (t := true) (ev_ok hS hx) (WP_sound hT hF hD c σ Q β μ a w h hS)
    · rename_i hx
      exact wp_cond (t := false) (ev_ok hS hx) (WP_sound hT hF hD d σ Q β μ a w h hS)
    · exact h.elim
  | .block id c, σ, Q, β, μ, a, w, h, hS => by
    refine wp_block (Go.wp_mono (WP_sound hT hF hD c σ _ β μ a w h hS) fun e a' w' he => ?_)
    obtain ⟨ex, σ', β', μ', h1, h2, h3, h4, h5, h6⟩ := he
    cases e <;> cases ex <;> simp only [ExRel] at h1
    · exact ⟨.norm, σ', β', μ', trivial, h2, h3, h4, h5, h6⟩
    · subst h1
      rename_i id'
      simp only at h2
      simp only [Exit.inBlock]
      by_cases hid : id' = id
      · rw [if_pos hid] at h2 ⊢
        exact ⟨.norm, σ', β', μ', trivial, h2, h3, h4, h5, h6⟩
      · rw [if_neg hid] at h2 ⊢
        exact ⟨.exit _, σ', β', μ', rfl, h2, h3, h4, h5, h6⟩
    · exact ⟨.ret, σ', β', μ', trivial, h2, h3, h4, h5, h6⟩
  | .loop c, σ, Q, β, μ, a, w, h, hS => by
    obtain ⟨n, h⟩ := h
    refine wp_loop_rounds n ?_
    have key : ∀ (n : Nat) (σ : St) (β1 : Pls) (μ1 : Fms) (σ1 : St) (a : Act) (w : World) (w1 : World), LoopW (WP P X fi D c) n σ1 Q → SRel σ1.h.next β1 μ1 fi.nt σ1 a w1 → Step β μ σ w β1 μ1 σ1 w1 → σ.h.next ≤ σ1.h.next → (∀ b, b < σ.h.next → β1 b = β b) →
        Code.rounds P c (Post fi β μ σ w Q) n a w1 := by
      intro n
      induction n with
      | zero => intro _ _ _ _ _ _ _ h; exact h.elim
      | succ n ih =>
        intro σ β1 μ1 σ1 a w w1 h hS1 hst hle hold
        rw [rounds_succ]
        refine Go.wp_mono (WP_sound hT hF hD c σ1 _ β1 μ1 a w1 h hS1) fun e a' w' he => ?_
        obtain ⟨ex, σ', β', μ', h1, h2, h3, h4, h5, h6⟩ := he
        cases e <;> cases ex <;> simp only [ExRel] at h1
        · exact ih σ β' μ' σ' a' w w' h2 h3 (hst.trans h4) (Nat.le_trans hle h5) (fun b hb => (h6 b (Nat.lt_of_lt_of_le hb hle)).trans (hold b hb))
        · subst h1
          exact ⟨.exit _, σ', β', μ', rfl, h2, h3, hst.trans h4, Nat.le_trans hle h5, fun b hb => (h6 b (Nat.lt_of_lt_of_le hb hle)).trans (hold b hb)⟩
        · exact ⟨.ret, σ', β', μ', trivial, h2, h3, hst.trans h4, Nat.le_trans hle h5, fun b hb => (h6 b (Nat.lt_of_lt_of_le hb hle)).trans (hold b hb)⟩
    exact key n σ β μ σ a w w h hS (Step.refl _ _ _ _) (Nat.le_refl _) (fun _ _ => rfl)
  | .region id ops draw, σ, Q, β, μ, a, w, h, hS => by
    simp only [WP] at h
    have fin : ∀ σ' β' μ' a' w', Q .norm (clean fi id σ') → SRel σ'.h.next β' μ' fi.nt σ' a' w' → Step β μ σ w β' μ' σ' w' → σ.h.next ≤ σ'.h.next → (∀ b, b < σ.h.next → β' b = β b) → Post fi β μ σ w Q .normal a' w' := fun σ' β' μ' a' w' k1 k2 k3 k4 k5 => by
      obtain ⟨g1, g2, g3⟩ := clean_ok (fi := fi) (id := id) k2
      exact ⟨.norm, _, β', μ', trivial, k1, by rw [g3]; exact g1, k3.trans g2, by rw [g3]; exact k4, k5⟩
    cases draw with
    | true => exact hD id ops σ _ β μ a w _ h hS fin
    | false => exact wp_region_list (wpOpsE_sound hT hF ops.toList σ _ β μ a w h hS fin)
  | .rangeFunc .., _, _, _, _, _, _, h, _ => h.elim
  | .scope _, _, _, _, _, _, _, h, _ => h.elim
  | .label _, _, _, _, _, _, _, h, _ => h.elim
  | .goto _, _, _, _, _, _, _, h, _ => h.elim
  | .refuse _, _, _, _, _, _, _, h, _ => h.elim
end sound
end E
end Go.Proofs.Ytnfehccnofhmnaa
