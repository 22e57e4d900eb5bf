/-
  An abstract machine of this place's own: rows that are made, append, len, clear: in the model as here. No condition.
-/
import Derived.Test.YtnfehccnofhmnaaE7
set_option linter.all false
namespace Go.Proofs.Ytnfehccnofhmnaa
open Go.RowKit
namespace E
section ops
variable {P : Program} {X : Ctx} {fi : Fi} {N N' nm : Nat} {β : Pls} {μ : Fms} {nt : Nat} {σ σ' : St} {a : Act} {w : World} {o : Oper} {v : V}

/-- A list, n times. -/
def repL {α : Type} (l : List α) : Nat → List α
  | 0 => []
  | n + 1 => l ++ repL l n

theorem repL_get {α : Type} {l : List α} (hl : 0 < l.length) : ∀ (n i : Nat), (repL l n)[i]? = if i < n * l.length then l[i % l.length]? else none
  | 0, i => by simp [repL]
  | n + 1, i => by
    rw [repL]
    by_cases h : i < l.length
    · rw [List.getElem?_append_left h, if_pos (by rw [Nat.succ_mul]; omega), Nat.mod_eq_of_lt h]
    · rw [List.getElem?_append_right (by omega), repL_get hl n, Nat.succ_mul]
      by_cases h2 : i - l.length < n * l.length
      · rw [if_pos h2, if_pos (by omega)]
        congr 1
        conv => rhs; rw [show i = i - l.length + l.length by omega, Nat.add_mod_right]
      · rw [if_neg h2, if_neg (by omega)]

theorem zerosC_rep (l : List Value) : ∀ n, zerosC (l.map .lit) n = (repL l n).map .lit
  | 0 => rfl
  | n + 1 => by simp [zerosC, repL, zerosC_rep l n]

theorem range_rep (z : Array Value) (hz : 0 < z.size) (n : Nat) : ((Array.range (n * z.size)).map (z[· % z.size]!)).toList = repL z.toList n := by
  apply List.ext_getElem?
  intro i
  rw [repL_get (by simpa using hz)]
  simp only [Array.length_toList, Array.getElem?_toList, Array.getElem?_map, Array.getElem?_range]
  split
  · have hlt : i % z.size < z.size := Nat.mod_lt _ hz
    simp [hlt]
  · rfl

theorem zeros_ok (z : Value) (hz : 0 < z.cells.size) (n : Nat) : All2 (CRel β μ) (zerosC (z.cells.toList.map .lit) n) ((Array.range (n * z.cells.size)).map (z.cells[· % z.cells.size]!)).toList := by
  rw [range_rep z.cells hz, zerosC_rep]
  exact all2_lits _

/-- A row made. -/
theorem newRow_ok (hmk : makes fi o = true) (hN : N ≤ N') (hnm : nm < N') (hβ : β nm = none) (hS : SRel N β μ nt σ a w) {cs : List C} {arr : Array Value} {e : TypeId} {sz n c : Nat}
    (hr : (execOp a.eval o).run P w = .ok (.value (.slice (some ⟨w.heap.size, 0, none⟩) n c)) (w.alloc (.cells arr e))) (hc : All2 (CRel β μ) cs arr.toList) (hnc : n ≤ c)
    (h : newRowH σ nm sz cs = some σ') : OpOk P fi N' nm β μ nt σ a w o (.one (.sl nm 0 n c)) σ' := by
  simp only [newRowH] at h
  split at h
  case isFalse => cases h
  rename_i hok
  simp only [Option.some.injEq] at h
  subst h
  have hall := all2_noF (μ' := noF) hok hc
  have hlen : arr.size = cs.length := by have := hall.length; simp at this; omega
  let p : Pl := ⟨w.heap.size, 0, arr.size, cs.length, sz⟩
  have hB : BRel (upd β nm p) p (.row true sz cs) (w.alloc (.cells arr e)) :=
    ⟨rfl, rfl, arr, e, (0, 0), arr.toList, alloc_new w _, fun j x hj => by simpa [p] using hj, hall.mono fun _ _ _ => CRel.up (upd_ext p hβ) fun _ _ _ h => h, rfl, by show 0 + cs.length ≤ arr.size; omega, fun _ => rfl⟩
  have hS' := hS.make (N' := N') (w' := w.alloc (.cells arr e)) hN hnm hβ (p := p) (x1 := .row true sz cs) (fun r hr _ => alloc_old w _ r hr)
    (fun b x q hb hq => by obtain ⟨q', g1, g2⟩ := hS.heap.blk b x hb; rw [hq, Option.some.injEq] at g1; subst g1; exact Nat.ne_of_lt g2.lt)
    (fun u ds hu he => by obtain ⟨r, g1, g2⟩ := hS.box u ds hu; rw [he, Option.some.injEq] at g1; subst g1; exact absurd g2.lt (Nat.lt_irrefl _)) hB
  exact ⟨_, _, _, upd β nm p, μ, hr, .inl rfl, ⟨p, 0, c, upd_same β nm p, rfl, hnc, Nat.le_refl _, fun _ => rfl, .inl rfl⟩, hS', Step.make (same_alloc w _) hβ (Nat.le_refl _) (fun k hk => alloc_old w _ k hk), fun b hb => upd_other β p (hb.resolve_right (by rw [hmk]; simp)), fun _ _ => rfl, rfl⟩

theorem elemTI_slice {t e : TypeId} {st et : TI} (h1 : X.tt t = some st) (hd : st.desc = .slice e) (h2 : elemTI X t = some et) : X.tt e = some et := by
  unfold elemTI at h2
  rw [h1] at h2
  simp only [hd] at h2
  exact h2

theorem op_buildSlice (hT : TtOk P X) (hN : N ≤ N') (hnm : nm < N') (hβ : β nm = none) (hS : SRel N β μ nt σ a w) {t : TypeId} {n : Nat} {ps : Array (Nat × Operand)} (ho : o.op = .buildSlice t n ps) (h : op P X fi nm o σ = some (v, σ')) : OpOk P fi N' nm β μ nt σ a w o v σ' := by
  simp only [op, ho] at h
  split at h
  case h_2 => cases h
  rename_i et vs st het hvs hst
  split at h
  case h_2 => cases h
  rename_i e z hd hzc
  split at h
  case isFalse => cases h
  rename_i hck
  simp only [Bool.and_eq_true, decide_eq_true_eq] at hck
  obtain ⟨⟨hle, hpos⟩, hzl⟩ := hck
  split at h
  case h_2 => cases h
  rename_i cs hf
  simp only [Option.map_eq_some_iff, Prod.mk.injEq] at h
  obtain ⟨σ1, h7, rfl, rfl⟩ := h
  have he := elemTI_slice hst hd het
  obtain ⟨i, hi, hs, hb, hz, hue, hu⟩ := elem_info hT hst (.inl hd) he
  rw [hd] at hu
  simp only [zeroC, Option.map_eq_some_iff] at hzc
  obtain ⟨zv, hzv, rfl⟩ := hzc
  have hzs : zv.cells.size = i.size := by simp at hzl; omega
  obtain ⟨arr', hf', hr⟩ := fill_ok (arr := (Array.range (n * zv.cells.size)).map (zv.cells[· % zv.cells.size]!)) hf (zeros_ok zv (by omega) n) (evParts_ok hS hvs)
  refine newRow_ok (by simp [makes, ho]) hN hnm hβ hS (arr := arr') (e := e) ?_ hr (Nat.le_refl _) h7
  have hle' : ¬ (16777216 < n * i.size) := by rw [hs]; omega
  rw [hzs] at hf'
  have hparts : (ps.map fun (x : Nat × Operand) => match x with | (i, x) => (i, a.eval x)).toList = ps.toList.map fun p => (p.1, a.eval p.2) := by simp
  by_cases hn : n = 0
  · subst hn
    unfold execOp
    simp only [Nat.zero_mul, Array.range_zero', Array.map_empty] at hf'
    rw [← hs] at hf'
    rw [← hparts] at hf'
    simp [ho, Instr.buildSlice, run_underlying hu, Go.sizeOf, typeInfo, hi, newRow]
    simp at hf'
    simp only [Array.range_zero', Array.map_empty, hf']
    rfl
  · have hne : ¬ (n * i.size = 0) := by
      intro h0
      rcases Nat.mul_eq_zero.1 h0 with h0 | h0 <;> omega
    unfold execOp
    rw [← hs, ← hparts] at hf'
    simp [ho, Instr.buildSlice, run_underlying hu, Go.sizeOf, typeInfo, zeroValue, hi, hz, hzv, newRow, hle', hne, hzs]
    simp at hf'
    rw [hf']
    rfl

theorem op_makeSlice (hT : TtOk P X) (hN : N ≤ N') (hnm : nm < N') (hβ : β nm = none) (hS : SRel N β μ nt σ a w) {t : TypeId} {x y : Operand} (ho : o.op = .makeSlice t x y) (h : op P X fi nm o σ = some (v, σ')) : OpOk P fi N' nm β μ nt σ a w o v σ' := by
  simp only [op, ho] at h
  obtain ⟨u, h3, h4⟩ := onV_some h
  obtain ⟨u', h5, h6⟩ := onV_some h4
  split at h6
  case h_2 => cases h6
  rename_i et st n m het hst
  split at h6
  case h_2 => cases h6
  rename_i e hd
  have hx : a.eval x = .int .i64 n := ev_ok hS h3
  have hy : a.eval y = .int .i64 m := ev_ok hS h5
  unfold makeSliceE at h6
  split at h6
  case h_2 => cases h6
  rename_i z hzc
  split at h6
  case isFalse => cases h6
  rename_i hck
  simp only [Bool.and_eq_true, decide_eq_true_eq] at hck
  obtain ⟨⟨⟨⟨⟨hpos, hzl⟩, h0⟩, hnm'⟩, h63⟩, hby⟩ := hck
  simp only [Option.map_eq_some_iff, Prod.mk.injEq] at h6
  obtain ⟨σ1, h7, rfl, rfl⟩ := h6
  have he := elemTI_slice hst hd het
  obtain ⟨i, hi, hs, hb, hz, hue, hu⟩ := elem_info hT hst (.inl hd) he
  rw [hd] at hu
  simp only [zeroC, Option.map_eq_some_iff] at hzc
  obtain ⟨zv, hzv, rfl⟩ := hzc
  have hzs : zv.cells.size = i.size := by simp at hzl; omega
  have hbytes : (i.bytes : Int) * m ≤ 281474976710656 := by
    have : ((m.toNat * et.bytes : Nat) : Int) ≤ 140737488355328 := by omega
    rw [Int.natCast_mul, Int.toNat_of_nonneg (by omega), ← hb, Int.mul_comm] at this
    omega
  have hrun := run_make (P := P) w t e i zv hu hi (by rw [hz, hzv]) .i64 .i64 n m h0 hnm' hbytes h63
  refine newRow_ok (by simp [makes, ho]) hN hnm hβ hS (arr := madeCells zv.cells (m.toNat * i.size)) (e := e) ?_ (by rw [madeCells, ← hzs]; exact zeros_ok zv (by omega) _) (by omega) h7
  unfold execOp
  simp [ho, hx, hy, hrun]

theorem op_makeMap (hN : N ≤ N') (hnm : nm < N') (hβ : β nm = none) (hS : SRel N β μ nt σ a w) {t : TypeId} (ho : o.op = .makeMap t none) (h : op P X fi nm o σ = some (v, σ')) : OpOk P fi N' nm β μ nt σ a w o v σ' := by
  simp only [op, ho, Option.some.injEq, Prod.mk.injEq] at h
  obtain ⟨rfl, rfl⟩ := h
  let p : Pl := ⟨w.heap.size, 0, 0, 0, 0⟩
  have hB : BRel (upd β nm p) p (.map [] 0) (w.alloc (.map #[] 0)) := ⟨rfl, #[], alloc_new w _, trivial⟩
  have hS' := hS.make (N' := N') (w' := w.alloc (.map #[] 0)) hN hnm hβ (p := p) (x1 := .map [] 0) (fun r hr _ => alloc_old w _ r hr)
    (fun b x q hb hq => by obtain ⟨q', g1, g2⟩ := hS.heap.blk b x hb; rw [hq, Option.some.injEq] at g1; subst g1; exact Nat.ne_of_lt g2.lt)
    (fun u ds hu he => by obtain ⟨r, g1, g2⟩ := hS.box u ds hu; rw [he, Option.some.injEq] at g1; subst g1; exact absurd g2.lt (Nat.lt_irrefl _)) hB
  refine ⟨_, .map (some w.heap.size), _, upd β nm p, μ, ?_, .inl rfl, ⟨p, upd_same β nm p, rfl⟩, hS', Step.make (same_alloc w _) hβ (Nat.le_refl _) (fun k hk => alloc_old w _ k hk), fun b hb => upd_other β p (hb.resolve_right (by simp [makes, ho])), fun _ _ => rfl, rfl⟩
  unfold execOp
  simp [ho, Instr.makeMap]
end ops
end E
end Go.Proofs.Ytnfehccnofhmnaa
