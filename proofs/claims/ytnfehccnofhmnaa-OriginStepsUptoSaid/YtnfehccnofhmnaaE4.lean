/-
  An abstract machine of this place's own: each operation that computes, reads, writes or makes a variable does in the model what it does here. No condition.
-/
import Derived.Test.YtnfehccnofhmnaaE3
set_option linter.all false
namespace Go.Proofs.Ytnfehccnofhmnaa
open Go.RowKit
namespace E
section ops
variable {P : Program} {X : Ctx} {fi : Fi} {N N' nm : Nat} {β : Pls} {μ : Fms} {nt : Nat} {σ σ' : St} {a : Act} {w : World} {o : Oper} {v : V}

def OpOk (P : Program) (fi : Fi) (N' nm : Nat) (β : Pls) (μ : Fms) (nt : Nat) (σ : St) (a : Act) (w : World) (o : Oper) (v : V) (σ' : St) : Prop :=
  ∃ n x w' β' μ', (execOp a.eval o).run P w = .ok n w' ∧ (n = .value x ∨ (n = .skip ∧ x = undef)) ∧ VRel β' μ' v x ∧ SRel N' β' μ' nt σ' a w' ∧ Step β μ σ w β' μ' σ' w' ∧
    (∀ b, (b ≠ nm ∨ makes fi o = false) → β' b = β b) ∧ (∀ t, o.dst ≠ some t → μ' t = μ t) ∧ σ'.h.next = σ.h.next

theorem OpOk.val (hN : N ≤ N') (hS : SRel N β μ nt σ a w) {x : Value} (hr : (execOp a.eval o).run P w = .ok (.value x) w) (hv : VRel β μ v x) : OpOk P fi N' nm β μ nt σ a w o v σ :=
  ⟨_, x, w, β, μ, hr, .inl rfl, hv, hS.wider hN, Step.refl _ _ _ _, fun _ _ => rfl, fun _ _ => rfl, rfl⟩

/-- What the machine is told of the types is so. -/
def TtOk (P : Program) (X : Ctx) : Prop := ∀ t ti, X.tt t = some ti → tiOf P t = some ti ∧ ∃ z, ti.zero = some z ∧ z.cells.size = ti.size

theorem tt_info (hT : TtOk P X) {t : TypeId} {ti : TI} (h : X.tt t = some ti) : ∃ i, P.info? t = some i ∧ i.size = ti.size ∧ i.bytes = ti.bytes ∧ i.zero = ti.zero ∧ P.underlying t = some ti.desc := by
  have := (hT t ti h).1
  unfold tiOf at this
  split at this
  · rename_i i d h1 h2
    simp only [Option.some.injEq] at this
    subst this
    exact ⟨i, h1, rfl, rfl, rfl, h2⟩
  · cases this

theorem onV_some {x : Operand} {k : V → Option (V × St)} (h : onV σ x k = some (v, σ')) : ∃ u, ev σ x = some u ∧ k u = some (v, σ') := by
  unfold onV at h
  split at h
  · rename_i u hu; exact ⟨u, hu, h⟩
  · cases h

theorem onC_some {x : Operand} {k : C → Option (V × St)} (h : onC σ x k = some (v, σ')) : ∃ c, ev σ x = some (.one c) ∧ k c = some (v, σ') := by
  unfold onC at h
  split at h
  · rename_i u hu; exact ⟨u, hu, h⟩
  · cases h

theorem onTI_some {t : TypeId} {k : TI → Option (V × St)} (h : onTI X t k = some (v, σ')) : ∃ ti, X.tt t = some ti ∧ k ti = some (v, σ') := by
  unfold onTI at h
  split at h
  · rename_i u hu; exact ⟨u, hu, h⟩
  · cases h

theorem op_move (hN : N ≤ N') (hS : SRel N β μ nt σ a w) {x : Operand} (ho : o.op = .move x ∨ o.op = .assign x) (h : onV σ x (fun v => some (v, σ)) = some (v, σ')) : OpOk P fi N' nm β μ nt σ a w o v σ' := by
  obtain ⟨u, h1, h2⟩ := onV_some h
  simp only [Option.some.injEq, Prod.mk.injEq] at h2
  obtain ⟨rfl, rfl⟩ := h2
  refine OpOk.val hN hS (x := a.eval x) ?_ (ev_ok hS h1)
  unfold execOp
  rcases ho with ho | ho <;> simp only [ho] <;> rfl

theorem op_pick (hN : N ≤ N') (hS : SRel N β μ nt σ a w) {c x y : Operand} (ho : o.op = .pick c x y) (h : op P X fi nm o σ = some (v, σ')) : OpOk P fi N' nm β μ nt σ a w o v σ' := by
  simp only [op, ho] at h
  obtain ⟨k, h1, h2⟩ := onC_some h
  have hc := ev_ok hS h1
  split at h2
  · rename_i t
    obtain ⟨u, h3, h4⟩ := onV_some h2
    simp only [Option.some.injEq, Prod.mk.injEq] at h4
    obtain ⟨rfl, rfl⟩ := h4
    have hc' : a.eval c = .bool t := hc
    refine OpOk.val hN hS (x := a.eval (if t then x else y)) ?_ (ev_ok hS h3)
    unfold execOp
    simp only [ho, hc', asBool, Sem.run_bind, Sem.run_pure, Result.andThen_ok]
    cases t <;> rfl
  · cases h2

theorem op_extract (hN : N ≤ N') (hS : SRel N β μ nt σ a w) {x : Operand} {i : Nat} (ho : o.op = .extract x i) (h : op P X fi nm o σ = some (v, σ')) : OpOk P fi N' nm β μ nt σ a w o v σ' := by
  simp only [op, ho] at h
  obtain ⟨k, h1, h2⟩ := onV_some h
  have hc := ev_ok hS h1
  split at h2
  · rename_i vs
    obtain ⟨l, hl, hall⟩ := hc
    simp only [Option.map_eq_some_iff, Prod.mk.injEq] at h2
    obtain ⟨u, hu, rfl, rfl⟩ := h2
    obtain ⟨y, hy, hr⟩ := hall.get hu
    refine OpOk.val hN hS (x := y) ?_ hr.up
    have hy' : l[i]? = some y := by simpa using hy
    unfold execOp
    simp only [ho, hl, Instr.extract, hy', Sem.run_bind, Sem.run_pure, Result.andThen_ok]
  · cases h2

theorem vcells_ok {cs : List C} {x : Value} (hv : VRel β μ v x) (hc : v.cells = some cs) (hok : cs.all C.ok = true) : All2 (CRel β μ) cs x.cells.toList := by
  cases v with
  | one c =>
    simp only [V.cells, Option.some.injEq] at hc
    subst hc
    simp only [List.all_cons, List.all_nil, Bool.and_true] at hok
    have h1 := CRel.oneCell hok hv
    have : x.cells = #[x] := by cases x <;> simp_all [Value.cells, Value.oneCell']
    rw [this]
    exact ⟨hv, trivial⟩
  | agg ds =>
    simp only [V.cells, Option.some.injEq] at hc
    subst hc
    obtain ⟨l, rfl, h2⟩ := hv
    exact h2
  | tup vs => simp [V.cells] at hc

/-- A variable made: of the frame, or in a block. -/
theorem newVar_ok (hmk : ∀ t, o.dst = some t → makes fi o = !fi.prom.contains t) (hN : N ≤ N') (hnm : nm < N') (hβ : β nm = none) (hS : SRel N β μ nt σ a w) {cs : List C} {arr : Array Value} {e : TypeId}
    (hr : (execOp a.eval o).run P w = .ok (.value (.pointer (some ⟨w.heap.size, 0, none⟩))) (w.alloc (.cells arr e))) (hc : cs.all C.ok = true → All2 (CRel β μ) cs arr.toList)
    (h : newVarE fi nm o.dst σ cs = some (v, σ')) : OpOk P fi N' nm β μ nt σ a w o v σ' := by
  unfold newVarE at h
  split at h
  · rename_i t ht
    cases hp : fi.prom.contains t with
    | true =>
      rw [hp, cond_true] at h
      simp only [newBox, Option.map_eq_some_iff, Prod.mk.injEq] at h
      obtain ⟨σ1, h1, rfl, rfl⟩ := h
      split at h1
      · rename_i hc1
        simp only [Bool.and_eq_true, Bool.not_eq_true', Option.isNone_iff_eq_none] at hc1
        obtain ⟨⟨hok, hfree⟩, hm⟩ := hc1
        simp only [Option.some.injEq] at h1
        subst h1
        have hX : XRel β w.heap.size cs (w.alloc (.cells arr e)) := ⟨arr, e, alloc_new w _, all2_noF hok (hc hok)⟩
        have hS' := hS.makeBox (w' := w.alloc (.cells arr e)) hfree hm (fun k hk => alloc_old w _ k hk) (Nat.le_refl _) hX
        refine ⟨_, _, _, β, upd μ t w.heap.size, hr, .inl rfl, ⟨w.heap.size, upd_same μ t _, rfl⟩, hS'.wider hN, Step.makeBox (same_alloc w _) (Nat.le_refl _) (fun k hk => alloc_old w _ k hk), fun _ _ => rfl, fun u hu => ?_, rfl⟩
        exact upd_other μ _ fun h => hu (by rw [ht, h])
      · cases h1
    | false =>
      rw [hp, cond_false] at h
      simp only [newRowH, Option.map_eq_some_iff, Prod.mk.injEq] at h
      obtain ⟨σ1, h1, rfl, rfl⟩ := h
      split at h1
      · rename_i hok
        simp only [Option.some.injEq] at h1
        subst h1
        have hall := all2_noF (μ' := noF) hok (hc hok)
        have hlen : arr.size = cs.length := by have := hall.length; simp at this; omega
        let p : Pl := ⟨w.heap.size, 0, arr.size, cs.length, 0⟩
        have hB : BRel (upd β nm p) p (.row true 0 cs) (w.alloc (.cells arr e)) :=
          ⟨rfl, rfl, arr, e, (0, 0), arr.toList, alloc_new w _, fun j x hj => by simpa [p] using hj, hall.mono fun _ _ _ => CRel.up (upd_ext p hβ) fun _ _ _ h => h, rfl, by show 0 + cs.length ≤ arr.size; omega, fun _ => rfl⟩
        have hS' := hS.make (N' := N') (w' := w.alloc (.cells arr e)) hN hnm hβ (p := p) (x1 := .row true 0 cs) (fun r hr _ => alloc_old w _ r hr)
          (fun b x q hb hq => by obtain ⟨q', g1, g2⟩ := hS.heap.blk b x hb; rw [hq, Option.some.injEq] at g1; subst g1; exact Nat.ne_of_lt g2.lt)
          (fun u ds hu he => by obtain ⟨r, g1, g2⟩ := hS.box u ds hu; rw [he, Option.some.injEq] at g1; subst g1; exact absurd g2.lt (Nat.lt_irrefl _)) hB
        exact ⟨_, _, _, upd β nm p, μ, hr, .inl rfl, ⟨p, upd_same β nm p, rfl⟩, hS', Step.make (same_alloc w _) hβ (Nat.le_refl _) (fun k hk => alloc_old w _ k hk), fun b hb => upd_other β p (hb.resolve_right (by rw [hmk t ht, hp]; simp)), fun _ _ => rfl, rfl⟩
      · cases h1
  · cases h

theorem all2_lits : ∀ (l : List Value), All2 (CRel β μ) (l.map .lit) l
  | [] => trivial
  | _ :: l => ⟨rfl, all2_lits l⟩

theorem op_alloc (hT : TtOk P X) (hN : N ≤ N') (hnm : nm < N') (hβ : β nm = none) (hS : SRel N β μ nt σ a w) {e : TypeId} (ho : o.op = .alloc e) (h : op P X fi nm o σ = some (v, σ')) : OpOk P fi N' nm β μ nt σ a w o v σ' := by
  simp only [op, ho] at h
  obtain ⟨ti, h1, h2⟩ := onTI_some h
  obtain ⟨i, hi, hs, hb, hz, hu⟩ := tt_info hT h1
  split at h2
  · rename_i cs hcs
    split at h2
    · simp only [zeroC, Option.map_eq_some_iff] at hcs
      obtain ⟨z, hz1, rfl⟩ := hcs
      refine newVar_ok (fun t ht => by simp [makes, ho, ht]) hN hnm hβ hS (arr := z.cells) (e := e) ?_ (fun _ => all2_lits _) h2
      unfold execOp
      simp only [ho, Instr.alloc, zeroValue, typeInfo, program, Sem.run_bind, Sem.run, hi, hz, hz1, Sem.run_pure, Result.andThen_ok, newVar, newRow, newObj]
      rfl
    · cases h2
  · cases h2

theorem op_box (hN : N ≤ N') (hnm : nm < N') (hβ : β nm = none) (hS : SRel N β μ nt σ a w) {e : TypeId} {x : Operand} (ho : o.op = .box e x) (h : op P X fi nm o σ = some (v, σ')) : OpOk P fi N' nm β μ nt σ a w o v σ' := by
  simp only [op, ho] at h
  obtain ⟨u, h1, h2⟩ := onV_some h
  split at h2
  · rename_i cs hcs
    refine newVar_ok (fun t ht => by simp [makes, ho, ht]) hN hnm hβ hS (arr := (a.eval x).cells) (e := e) ?_ (fun hok => vcells_ok (ev_ok hS h1) hcs hok) h2
    unfold execOp
    simp only [ho, Instr.box, Sem.run_bind, Sem.run_pure, Result.andThen_ok, newVar, newRow, newObj, Sem.run]
    rfl
  · cases h2

theorem rd_some {cs ds : List C} {k n : Nat} (h : rd cs k n = some ds) : k + n ≤ cs.length ∧ ds = (cs.drop k).take n := by
  unfold rd at h
  split at h
  · rename_i hle
    simp only [Option.some.injEq] at h
    exact ⟨hle, h.symm⟩
  · cases h

theorem wr_some {cs xs ds : List C} {k : Nat} (h : wr cs k xs = some ds) : k + xs.length ≤ cs.length ∧ ds = cs.take k ++ (xs ++ cs.drop (k + xs.length)) := by
  unfold wr at h
  split at h
  · rename_i hle
    simp only [Option.some.injEq] at h
    exact ⟨hle, h.symm⟩
  · cases h

/-- Cells that lie somewhere, with an address, and what is read there. -/
def Lies (β : Pls) (μ : Fms) (w : World) (c : C) (n : Nat) (cs : List C) : Prop :=
  ∃ rb k xs, (∀ x, CRel β μ c x → x = .pointer (some ⟨rb, k, none⟩)) ∧ xs.length = n ∧ w.rangeAt rb k xs ∧ All2 (CRel β noF) cs xs

theorem cell_row {r k : Nat} {arr : Array Value} {el : TypeId} {fr : Nat × Nat} (h : w.heap[r]? = some (.cells arr el fr)) : w.cell? ⟨r, k, none⟩ = arr[k]? := cell_of_row w r k arr el fr h

theorem lies (hS : SRel N β μ nt σ a w) {c : C} {n : Nat} {cs : List C} (h : loadC σ c n = some cs) : Lies β μ w c n cs := by
  unfold loadC at h
  split at h
  · rename_i t k
    simp only [Option.bind_eq_some_iff] at h
    obtain ⟨bs, hb, hr⟩ := h
    obtain ⟨r, hμ, arr, el, hh, hall⟩ := hS.box t bs hb
    obtain ⟨hle, rfl⟩ := rd_some hr
    have hlen := hall.length
    refine ⟨r, k, (arr.toList.drop k).take n, fun x hx => ?_, ?_, fun j y hj => ?_, (hall.drop k).take n⟩
    · obtain ⟨r', g1, rfl⟩ := hx
      rw [hμ, Option.some.injEq] at g1
      subst g1
      rfl
    · simp only [List.length_take, List.length_drop]
      omega
    · rw [cell_row hh]
      rw [List.getElem?_take] at hj
      split at hj
      · simpa [List.getElem?_drop] using hj
      · cases hj
  · rename_i b k
    split at h
    · rename_i rw sz bs hb
      obtain ⟨p, hβ, hsz, hn, arr, el, fr, xs, hh, hw, hall, hext, hfit, hfr⟩ := hS.heap.blk b _ hb
      obtain ⟨hle, rfl⟩ := rd_some h
      have hlen := hall.length
      refine ⟨p.rb, p.ro + k, (xs.drop k).take n, fun x hx => ?_, ?_, fun j y hj => ?_, (hall.drop k).take n⟩
      · obtain ⟨p', g1, rfl⟩ := hx
        rw [hβ, Option.some.injEq] at g1
        subst g1
        rfl
      · simp only [List.length_take, List.length_drop]
        omega
      · rw [cell_row hh]
        rw [List.getElem?_take] at hj
        split at hj
        · have := hw (k + j) y (by simpa [List.getElem?_drop] using hj)
          simpa [Nat.add_assoc] using this
        · cases hj
    · cases h
  · cases h

theorem run_load_one {t : TypeId} {d : TypeDesc} (hu : P.underlying t = some d) (hd : isAggD d = false) {r k : Nat} {x : Value} (hx : w.cell? ⟨r, k, none⟩ = some x) :
    (loadVar t ⟨r, k, none⟩).run P w = .ok x w := by
  have hagg : (isAgg t).run P w = .ok false w := by
    unfold isAgg
    rw [Sem.run_bind, run_underlying hu w]
    cases d <;> simp_all [isAggD]
  simp [loadVar, Sem.run_bind, hagg, Go.load, Sem.run, hx]

theorem op_load (hT : TtOk P X) (hN : N ≤ N') (hS : SRel N β μ nt σ a w) {t : TypeId} {x : Operand} (ho : o.op = .load t x) (h : op P X fi nm o σ = some (v, σ')) : OpOk P fi N' nm β μ nt σ a w o v σ' := by
  simp only [op, ho] at h
  obtain ⟨ti, h1, h2⟩ := onTI_some h
  obtain ⟨i, hi, hs, hb, hz, hu⟩ := tt_info hT h1
  obtain ⟨c, h3, h4⟩ := onC_some h2
  simp only [load, Option.map_eq_some_iff, Option.bind_eq_some_iff, Prod.mk.injEq] at h4
  obtain ⟨v', ⟨cs, h5, h6⟩, rfl, rfl⟩ := h4
  obtain ⟨r, k, xs, hptr, hlen, hrange, hall⟩ := lies hS h5
  have hx := hptr _ (ev_ok hS h3)
  have hall' : All2 (CRel β μ) cs xs := hall.mono fun c _ y hc => hc.up (fun _ _ h => h) fun t r ht hn => by cases hn
  cases hd : isAggD ti.desc with
  | true =>
    rw [hd] at h6
    simp only [mkV, Option.some.injEq] at h6
    subst h6
    refine OpOk.val hN hS (x := .agg xs.toArray) ?_ ⟨xs.toArray, rfl, by simpa using hall'⟩
    have hrow : ti.desc.isRow = true := by cases hq : ti.desc <;> simp_all [isAggD, TypeDesc.isRow]
    have := run_loadVar_mid (P := P) w r k t xs ti.desc hrange hu hrow (by rw [hi]; simp only [Option.map_some, Option.some.injEq]; rw [hs, hlen, sizeV, if_pos hd])
    unfold execOp
    simp only [ho, hx, Instr.loadAt, Instr.sureAddr, Sem.run_bind, Sem.run_pure, Result.andThen_ok, this]
  | false =>
    have h1' : sizeV ti = 1 := by simp [sizeV, hd]
    rw [h1'] at hlen
    rw [hd] at h6
    match xs, hlen, cs, hall', h6 with
    | [y], _, [c'], hall', h6 =>
      simp only [mkV, Option.some.injEq] at h6
      subst h6
      refine OpOk.val hN hS (x := y) ?_ hall'.1
      have := run_load_one (P := P) hu hd (hrange 0 y rfl)
      simp only [Nat.add_zero] at this
      unfold execOp
      simp only [ho, hx, Instr.loadAt, Instr.sureAddr, Sem.run_bind, Sem.run_pure, Result.andThen_ok, this]
end ops
end E
end Go.Proofs.Ytnfehccnofhmnaa
