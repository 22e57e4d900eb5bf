/-
  An abstract machine of this place's own: stores, addresses, parts, comparisons: in the model as here. No condition.
-/
import Derived.Test.YtnfehccnofhmnaaE4
set_option linter.all false
namespace Go.Proofs.Ytnfehccnofhmnaa
open Go.RowKit
namespace E
section ops
variable {P : Program} {X : Ctx} {fi : Fi} {N N' nm : Nat} {β : Pls} {μ : Fms} {nt : Nat} {σ σ' : St} {a : Act} {w : World} {o : Oper} {v : V}

theorem winAt_over {arr : Array Value} {k o : Nat} {xs ys : List Value} (h : winAt arr k xs) (hfit : k + xs.length ≤ arr.size) (hle : o + ys.length ≤ xs.length) :
    winAt (arr.toList.take (k + o) ++ ys ++ arr.toList.drop (k + o + ys.length)).toArray k (xs.take o ++ (ys ++ xs.drop (o + ys.length))) := by
  intro j x hj
  have hsz : arr.toList.length = arr.size := by simp
  simp only [List.getElem?_toArray]
  rcases Nat.lt_or_ge j o with h1 | h1
  · rw [List.append_assoc, List.getElem?_append_left (by simp; omega), List.getElem?_take, if_pos (by omega)]
    rw [List.getElem?_append_left (by simp; omega), List.getElem?_take, if_pos h1] at hj
    simpa using h j x hj
  · rw [List.getElem?_append_right (by simp; omega)] at hj
    rw [List.append_assoc, List.getElem?_append_right (by simp; omega)]
    have e1 : (xs.take o).length = o := by simp; omega
    have e2 : (arr.toList.take (k + o)).length = k + o := by simp; omega
    rw [e1] at hj
    rw [e2]
    rcases Nat.lt_or_ge j (o + ys.length) with h2 | h2
    · rw [List.getElem?_append_left (by omega)] at hj ⊢
      rw [show k + j - (k + o) = j - o by omega]
      exact hj
    · rw [List.getElem?_append_right (by omega)] at hj ⊢
      rw [List.getElem?_drop] at hj ⊢
      have e3 : o + ys.length + (j - o - ys.length) = j := by omega
      have e4 : k + o + ys.length + (k + j - (k + o) - ys.length) = k + j := by omega
      rw [e3] at hj
      rw [e4]
      simpa using h j x hj

theorem all2_over {β' : Pls} {μ' : Fms} {cs ds : List C} {xs ys : List Value} {k : Nat} (h : All2 (CRel β' μ') cs xs) (h' : All2 (CRel β' μ') ds ys) :
    All2 (CRel β' μ') (cs.take k ++ (ds ++ cs.drop (k + ds.length))) (xs.take k ++ (ys ++ xs.drop (k + ys.length))) := by
  rw [← h'.length]
  exact (h.take k).append (h'.append (h.drop _))

theorem size_over {arr : Array Value} {k : Nat} {ys : List Value} (hle : k + ys.length ≤ arr.size) : (arr.toList.take k ++ ys ++ arr.toList.drop (k + ys.length)).toArray.size = arr.size := by
  simp
  omega

/-- Cells written over others: the model's run, and the state behind it. -/
theorem storeC_ok (hN : N ≤ N') (hS : SRel N β μ nt σ a w) {c : C} {cs : List C} {ys : List Value} {x : Value} (hx : CRel β μ c x) (hall : All2 (CRel β μ) cs ys) (h : storeC σ c cs = some σ') :
    ∃ r k w', x = .pointer (some ⟨r, k, none⟩) ∧ (storeCells ⟨r, k, none⟩ ys).run P w = .ok () w' ∧ SRel N' β μ nt σ' a w' ∧ Step β μ σ w β μ σ' w' ∧ σ'.h.next = σ.h.next := by
  unfold storeC at h
  split at h
  · rename_i hok
    have h1 : ∀ y ∈ ys, y.oneCell' = true := all2_oneCell hok hall
    have hall0 := all2_noF (μ' := noF) hok hall
    have hlen := hall.length
    split at h
    · rename_i t k
      simp only [Option.bind_eq_some_iff, Option.map_eq_some_iff] at h
      obtain ⟨bs, hb, ds, hw, rfl⟩ := h
      obtain ⟨hle, rfl⟩ := wr_some hw
      obtain ⟨r, hμ, arr, el, hh, hbx⟩ := hS.box t bs hb
      obtain ⟨r', g1, rfl⟩ := hx
      rw [hμ, Option.some.injEq] at g1
      subst g1
      have hbl := hbx.length
      have hsz : arr.toList.length = arr.size := by simp
      have hrun := run_storeCells_at P r k el ys 0 arr w hh (by omega) h1
      simp only [Nat.add_zero] at hrun
      refine ⟨r, k, _, rfl, hrun, ?_, Step.writeBox (same_setRow w _ _) hb hμ (fun q _ hq => setRow_other w r q _ hq), rfl⟩
      refine (hS.writeBox hb hμ (fun q _ hq => setRow_other w r q _ hq) ⟨_, el, setRow_heap w r arr _ el (0, 0) hh, ?_⟩).wider hN
      have := all2_over (k := k) hbx hall0
      simpa [List.append_assoc] using this
    · rename_i b k
      split at h
      · rename_i sz bs hb
        simp only [Option.map_eq_some_iff] at h
        obtain ⟨ds, hw, rfl⟩ := h
        obtain ⟨hle, rfl⟩ := wr_some hw
        obtain ⟨p, hβ, hsz, hn, arr, el, fr, xs, hh, hwin, hbx, hext, hfit, hfr⟩ := hS.heap.blk b _ hb
        obtain rfl := hfr rfl
        obtain ⟨p', g1, rfl⟩ := hx
        rw [hβ, Option.some.injEq] at g1
        subst g1
        have hbl := hbx.length
        have hrun := run_storeCells_at P p.rb (p.ro + k) el ys 0 arr w hh (by omega) h1
        simp only [Nat.add_zero] at hrun
        refine ⟨p.rb, p.ro + k, _, rfl, hrun, ?_, Step.write (same_setRow w _ _) hb rfl hβ (fun q _ hq => setRow_other w p.rb q _ hq), rfl⟩
        refine (hS.write (x1 := .row true sz _) hb rfl hβ (fun q _ hq => setRow_other w p.rb q _ hq) ?_).wider hN
        refine ⟨hsz, ?_, _, el, (0, 0), xs.take k ++ (ys ++ xs.drop (k + ys.length)), setRow_heap w p.rb arr _ el (0, 0) hh, winAt_over hwin (by omega) (by omega), all2_over hbx hall0, ?_, ?_, fun _ => rfl⟩
        · rw [hn]; simp; omega
        · rw [hext, size_over (by omega)]
        · rw [size_over (by omega)]; simp; omega
      · cases h
    · cases h
  · cases h

theorem op_store (hT : TtOk P X) (hN : N ≤ N') (hS : SRel N β μ nt σ a w) {t : TypeId} {x y : Operand} (ho : o.op = .store t x y) (h : op P X fi nm o σ = some (v, σ')) : OpOk P fi N' nm β μ nt σ a w o v σ' := by
  simp only [op, ho] at h
  obtain ⟨ti, h1, h2⟩ := onTI_some h
  obtain ⟨i, hi, hs, hb, hz, hu⟩ := tt_info hT h1
  obtain ⟨c, h3, h4⟩ := onC_some h2
  obtain ⟨u, h5, h6⟩ := onV_some h4
  split at h6
  · rename_i cs hcs
    split at h6
    · rename_i hsz
      simp only [Option.map_eq_some_iff, Prod.mk.injEq] at h6
      obtain ⟨σ1, h7, rfl, rfl⟩ := h6
      have hok : cs.all C.ok = true := by
        unfold storeC at h7
        split at h7
        · assumption
        · cases h7
      have hall := vcells_ok (ev_ok hS h5) hcs hok
      obtain ⟨r, k, w', hx, hrun, hS', hst, hnx⟩ := storeC_ok (P := P) hN hS (ev_ok hS h3) hall h7
      refine ⟨.skip, undef, w', β, μ, ?_, .inr ⟨rfl, rfl⟩, rfl, hS', hst, fun _ _ => rfl, fun _ _ => rfl, hnx⟩
      have hl : (a.eval y).cells.size = i.size := by
        have := hall.length
        simp at this
        omega
      unfold execOp
      simp [ho, hx, Instr.storeAt, Instr.sureAddr, storeVar, Go.sizeOf, typeInfo, hi, hl, hrun]
    · cases h6
  · cases h6

theorem op_nilCheck (hN : N ≤ N') (hS : SRel N β μ nt σ a w) {x : Operand} (ho : o.op = .nilCheck x) (h : op P X fi nm o σ = some (v, σ')) : OpOk P fi N' nm β μ nt σ a w o v σ' := by
  simp only [op, ho] at h
  obtain ⟨c, h3, h4⟩ := onC_some h
  have hx := ev_ok hS h3
  split at h4
  · rename_i b k
    simp only [Option.some.injEq, Prod.mk.injEq] at h4
    obtain ⟨rfl, rfl⟩ := h4
    refine OpOk.val hN hS (x := a.eval x) ?_ hx
    obtain ⟨p, _, hx'⟩ := hx
    unfold execOp
    simp only [ho, hx']
    rfl
  · rename_i b k
    simp only [Option.some.injEq, Prod.mk.injEq] at h4
    obtain ⟨rfl, rfl⟩ := h4
    refine OpOk.val hN hS (x := a.eval x) ?_ hx
    obtain ⟨p, _, hx'⟩ := hx
    unfold execOp
    simp only [ho, hx']
    rfl
  · cases h4

theorem shift_ok {c c' : C} {k : Nat} {x : Value} (h : shiftC c k = some c') (hx : CRel β μ c x) : ∃ r q, x = .pointer (some ⟨r, q, none⟩) ∧ CRel β μ c' (.pointer (some ⟨r, q + k, none⟩)) := by
  unfold shiftC at h
  split at h
  · simp only [Option.some.injEq] at h
    subst h
    obtain ⟨r, h1, rfl⟩ := hx
    exact ⟨_, _, rfl, r, h1, rfl⟩
  · simp only [Option.some.injEq] at h
    subst h
    obtain ⟨p, h1, rfl⟩ := hx
    exact ⟨_, _, rfl, p, h1, by rw [Nat.add_assoc]⟩
  · cases h

theorem field_info (hT : TtOk P X) {t : TypeId} {f : Nat} {off : Nat} {fi' : TI} (h : fieldTI X t f = some (off, fi')) :
    ∃ fs fd i, P.underlying t = some (.struct fs) ∧ fs[f]? = some fd ∧ fd.offset = off ∧ X.tt fd.type = some fi' ∧ P.info? fd.type = some i ∧ i.size = fi'.size ∧ P.underlying fd.type = some fi'.desc := by
  unfold fieldTI at h
  split at h
  · rename_i ti hti
    split at h
    · rename_i fs hd
      split at h
      · rename_i fd hfd
        split at h
        · rename_i ft hft
          simp only [Option.some.injEq, Prod.mk.injEq] at h
          obtain ⟨rfl, rfl⟩ := h
          obtain ⟨i, hi, hs, hb, hz, hu⟩ := tt_info hT hti
          obtain ⟨i', hi', hs', hb', hz', hu'⟩ := tt_info hT hft
          exact ⟨fs, fd, i', by rw [hu, hd], by simpa using hfd, rfl, hft, hi', hs', hu'⟩
        · cases h
      · cases h
    · cases h
  · cases h

theorem op_fieldAddr (hT : TtOk P X) (hN : N ≤ N') (hS : SRel N β μ nt σ a w) {t : TypeId} {x : Operand} {f : Nat} (ho : o.op = .fieldAddr t x f) (h : op P X fi nm o σ = some (v, σ')) : OpOk P fi N' nm β μ nt σ a w o v σ' := by
  simp only [op, ho] at h
  split at h
  · rename_i off ft hft
    obtain ⟨fs, fd, i, hu, hfd, hoff, _, hi, hs, _⟩ := field_info hT hft
    split at h
    · rename_i hpos
      obtain ⟨c, h3, h4⟩ := onC_some h
      simp only [Option.map_eq_some_iff, Prod.mk.injEq] at h4
      obtain ⟨c', h5, rfl, rfl⟩ := h4
      obtain ⟨r, q, hx, hc'⟩ := shift_ok h5 (ev_ok hS h3)
      refine OpOk.val hN hS (x := .pointer (some ⟨r, q + off, none⟩)) ?_ hc'
      have hne : ¬ i.size = 0 := by omega
      unfold execOp
      simp [ho, hx, Instr.fieldAt, run_underlying hu, hfd, Instr.sureAddr, fieldPlace, Go.sizeOf, typeInfo, hi, hne, Addr.add_mid, hoff]
    · cases h
  · cases h

theorem part_ok {ti : TI} {i : TypeInfo} {t : TypeId} (hi : P.info? t = some i) (hs : i.size = ti.size) (hu : P.underlying t = some ti.desc) {arr : Array Value} {cs : List C} {off : Nat}
    (hall : All2 (CRel β μ) cs arr.toList) (h : partV ti cs off = some v) : ∃ x, (part t arr off).run P w = .ok x w ∧ VRel β μ v x := by
  simp only [partV, Option.bind_eq_some_iff] at h
  obtain ⟨ds, h1, h2⟩ := h
  obtain ⟨hle, rfl⟩ := rd_some h1
  have hagg : (isAgg t).run P w = .ok (isAggD ti.desc) w := by
    unfold isAgg
    rw [Sem.run_bind, run_underlying hu w]
    cases ti.desc <;> rfl
  have hall' := (hall.drop off).take (sizeV ti)
  cases hd : isAggD ti.desc with
  | true =>
    rw [hd] at h2 hagg
    simp only [mkV, Option.some.injEq] at h2
    subst h2
    have hsz : sizeV ti = ti.size := by simp [sizeV, hd]
    refine ⟨.agg (arr.extract off (off + i.size)), ?_, _, rfl, ?_⟩
    · simp [part, hagg, Go.sizeOf, typeInfo, hi]
    · rw [hs, ← hsz]
      simpa [List.extract_eq_take_drop, Array.toList_extract] using hall'
  | false =>
    rw [hd] at h2 hagg
    have hsz : sizeV ti = 1 := by simp [sizeV, hd]
    rw [hsz] at h2 hall' hle
    have hlt : off < cs.length := by omega
    have hc : (cs.drop off).take 1 = [cs[off]] := by
      rw [List.take_one, List.head?_drop]
      simp [List.getElem?_eq_getElem hlt]
    rw [hc] at h2
    simp only [mkV, Option.some.injEq] at h2
    subst h2
    obtain ⟨y, hy, hr⟩ := hall.get (i := off) (List.getElem?_eq_getElem hlt)
    refine ⟨y, ?_, hr⟩
    have hy' : arr[off]? = some y := by simpa using hy
    simp [part, hagg, hy']

theorem op_field (hT : TtOk P X) (hN : N ≤ N') (hS : SRel N β μ nt σ a w) {t : TypeId} {x : Operand} {f : Nat} (ho : o.op = .field t x f) (h : op P X fi nm o σ = some (v, σ')) : OpOk P fi N' nm β μ nt σ a w o v σ' := by
  simp only [op, ho] at h
  split at h
  · rename_i off ft hft
    obtain ⟨fs, fd, i, hu, hfd, hoff, _, hi, hs, hu'⟩ := field_info hT hft
    obtain ⟨u, h3, h4⟩ := onV_some h
    have hx := ev_ok hS h3
    split at h4
    · rename_i cs
      simp only [Option.map_eq_some_iff, Prod.mk.injEq] at h4
      obtain ⟨v', h5, rfl, rfl⟩ := h4
      obtain ⟨arr, hx', hall⟩ := hx
      obtain ⟨y, hrun, hr⟩ := part_ok (P := P) (w := w) hi hs hu' hall h5
      refine OpOk.val hN hS (x := y) ?_ hr
      unfold execOp
      simp [ho, hx', Instr.field, run_underlying hu, hfd, asAgg, hoff, hrun]
    · cases h4
  · cases h

theorem idx_ok {u : V} {x : Value} {j : Int} (h : idxOf u = some j) (hx : VRel β μ u x) : ∃ k, x = .int k j := by
  unfold idxOf at h
  split at h
  · rename_i k i
    simp only [Option.some.injEq] at h
    subst h
    exact ⟨k, hx⟩
  · cases h

theorem elem_info (hT : TtOk P X) {t : TypeId} {ti et : TI} {e : TypeId} (h : X.tt t = some ti) (hd : ti.desc = .slice e ∨ ∃ n, ti.desc = .array n e) (he : X.tt e = some et) :
    ∃ i, P.info? e = some i ∧ i.size = et.size ∧ i.bytes = et.bytes ∧ i.zero = et.zero ∧ P.underlying e = some et.desc ∧ P.underlying t = some ti.desc := by
  obtain ⟨i, hi, hs, hb, hz, hu⟩ := tt_info hT he
  obtain ⟨_, _, _, _, _, hu'⟩ := tt_info hT h
  exact ⟨i, hi, hs, hb, hz, hu, hu'⟩

theorem op_indexAddr (hT : TtOk P X) (hN : N ≤ N') (hS : SRel N β μ nt σ a w) {t : TypeId} {x y : Operand} (ho : o.op = .indexAddr t x y) (h : op P X fi nm o σ = some (v, σ')) : OpOk P fi N' nm β μ nt σ a w o v σ' := by
  simp only [op, ho] at h
  obtain ⟨c, h3, h4⟩ := onC_some h
  obtain ⟨u, h5, h6⟩ := onV_some h4
  split at h6
  · rename_i j hj
    obtain ⟨k, hy⟩ := idx_ok hj (ev_ok hS h5)
    have hx := ev_ok hS h3
    simp only [Option.map_eq_some_iff, Prod.mk.injEq] at h6
    obtain ⟨c', h7, rfl, rfl⟩ := h6
    unfold idxAddr at h7
    split at h7
    · rename_i ti hti
      split at h7
      · rename_i len e hd
        split at h7
        · rename_i et het
          obtain ⟨i, hi, hs, hb, hz, hue, hu⟩ := elem_info hT hti (.inr ⟨len, hd⟩) het
          rw [hd] at hu
          split at h7
          · rename_i hin
            simp only [Bool.and_eq_true, decide_eq_true_eq] at hin
            obtain ⟨r, q, hx', hc'⟩ := shift_ok h7 hx
            refine OpOk.val hN hS (x := .pointer (some ⟨r, q + j.toNat * et.size, none⟩)) ?_ hc'
            unfold execOp
            simp [ho, hx', hy, Instr.indexAt, asIntOf, run_underlying hu, Instr.sureAddr, hin, Go.sizeOf, typeInfo, hi, hs, Addr.add_mid]
          · cases h7
        · cases h7
      · rename_i e hd
        split at h7
        · rename_i et b q len cap het
          obtain ⟨i, hi, hs, hb, hz, hue, hu⟩ := elem_info hT hti (.inl hd) het
          rw [hd] at hu
          split at h7
          · rename_i hin
            simp only [Bool.and_eq_true, decide_eq_true_eq] at hin
            simp only [Option.some.injEq] at h7
            subst h7
            obtain ⟨p, k', rc, hβ, hx', hlc, hcr, hk, _⟩ := hx
            have hk' : k' = p.ro + q := hk (by omega)
            subst hk'
            refine OpOk.val hN hS (x := .pointer (some ⟨p.rb, p.ro + q + j.toNat * et.size, none⟩)) ?_ ⟨p, hβ, by rw [Nat.add_assoc]⟩
            unfold execOp
            simp [ho, hx', hy, Instr.indexAt, asIntOf, run_underlying hu, hin, Go.sizeOf, typeInfo, hi, hs, Addr.add_mid]
          · cases h7
        · cases h7
      · cases h7
    · cases h7
  · cases h6

theorem op_pure (hN : N ≤ N') (hS : SRel N β μ nt σ a w) (hs : ∀ cs b, o.op ≠ .select cs b) (h : op.pureV P o σ = some (v, σ')) : OpOk P fi N' nm β μ nt σ a w o v σ' := by
  simp only [op.pureV, Option.map_eq_some_iff, Prod.mk.injEq] at h
  obtain ⟨u, h1, rfl, rfl⟩ := h
  obtain ⟨x, hx, hr⟩ := pureOp_ok hS h1 hs
  exact OpOk.val hN hS hx hr

theorem op_index (hT : TtOk P X) (hN : N ≤ N') (hS : SRel N β μ nt σ a w) {t : TypeId} {x y : Operand} (ho : o.op = .index t x y) (h : op P X fi nm o σ = some (v, σ')) : OpOk P fi N' nm β μ nt σ a w o v σ' := by
  simp only [op, ho] at h
  split at h
  · rename_i ti et hti het
    obtain ⟨u, h3, h4⟩ := onV_some h
    obtain ⟨u', h5, h6⟩ := onV_some h4
    split at h6
    · rename_i len e cs j hd hj
      obtain ⟨k, hy⟩ := idx_ok hj (ev_ok hS h5)
      split at h6
      · rename_i hin
        simp only [Bool.and_eq_true, decide_eq_true_eq] at hin
        simp only [Option.map_eq_some_iff, Prod.mk.injEq] at h6
        obtain ⟨v', h7, rfl, rfl⟩ := h6
        have he : X.tt e = some et := by
          unfold elemTI at het
          rw [hti] at het
          simp only [hd] at het
          exact het
        obtain ⟨i, hi, hs, hb, hz, hue, hu⟩ := elem_info hT hti (.inr ⟨len, hd⟩) he
        rw [hd] at hu
        obtain ⟨arr, hx', hall⟩ := ev_ok hS h3
        obtain ⟨z, hrun, hr⟩ := part_ok (P := P) (w := w) hi hs hue hall h7
        refine OpOk.val hN hS (x := z) ?_ hr
        unfold execOp
        simp [ho, hx', hy, Instr.index, asIntOf, run_underlying hu, hin, Go.sizeOf, typeInfo, hi, hs, hrun]
      · cases h6
    · cases h6
  · exact op_pure hN hS (fun _ _ => by rw [ho]; exact fun h => by cases h) h

theorem caps_ok : ∀ {vs : List V} {l : List (Nat × Nat)} {xs : List Value}, capsOf vs = some l → All2 (VRel β μ) vs xs → All2 (PtrRel β) l xs
  | [], l, [], h, _ => by simp only [capsOf, Option.some.injEq] at h; subst h; trivial
  | v :: vs, l, x :: xs, h, hr => by
    match v, h with
    | .one (.ptr b k), h =>
      simp only [capsOf, Option.map_eq_some_iff] at h
      obtain ⟨l', h1, rfl⟩ := h
      exact ⟨hr.1, caps_ok h1 hr.2⟩
  | [], _, _ :: _, _, h => h.elim
  | _ :: _, _, [], _, h => h.elim

theorem op_makeFunc (hN : N ≤ N') (hS : SRel N β μ nt σ a w) {f : FuncId} {fs caps : Array Operand} (ho : o.op = .makeFunc (.func f) fs caps) (h : op P X fi nm o σ = some (v, σ')) : OpOk P fi N' nm β μ nt σ a w o v σ' := by
  simp only [op, ho] at h
  split at h
  · rename_i hfs
    split at h
    · rename_i vs hvs
      simp only [Option.map_eq_some_iff, Prod.mk.injEq] at h
      obtain ⟨l, h1, rfl, rfl⟩ := h
      have hall := caps_ok h1 (evs_ok hS hvs)
      have hf0 : fs = #[] := Array.eq_empty_of_size_eq_zero hfs
      subst hf0
      refine OpOk.val hN hS (x := .func (.func f) #[] (caps.map a.eval)) ?_ ⟨_, rfl, by simpa using hall⟩
      unfold execOp
      simp [ho, Instr.makeFunc]
    · cases h
  · cases h
end ops
end E
end Go.Proofs.Ytnfehccnofhmnaa
