/-
  An abstract machine of this place's own: every operation at once. No condition.
-/
import Derived.Test.YtnfehccnofhmnaaE10
set_option linter.all false
namespace Go.Proofs.Ytnfehccnofhmnaa
open Go.RowKit
namespace E
section ops
variable {P : Program} {X : Ctx} {fi : Fi} {N N' nm : Nat} {β : Pls} {μ : Fms} {nt : Nat} {σ σ' : St} {a : Act} {w : World} {o : Oper} {v : V}

theorem zeros_all {z : List C} (h : z.all C.ok = true) : ∀ n, (zerosC z n).all C.ok = true
  | 0 => rfl
  | n + 1 => by simp [zerosC, h, zeros_all h n]

theorem op_clear (hT : TtOk P X) (hN : N ≤ N') (hS : SRel N β μ nt σ a w) {ts : Array TypeId} {c : C} {x : Value} {vs : List V} (hvs : vs = [.one c]) (hx : CRel β μ c x)
    (h : builtinE X nm σ .clear ts.toList vs = some (v, σ')) {ty : TypeId} (hrun : ∀ y w', (Builtin.clear_ ts ty #[x]).run P w = .ok y w' → (execOp a.eval o).run P w = .ok (.value y) w') : OpOk P fi N' nm β μ nt σ a w o v σ' := by
  subst hvs
  obtain ⟨ts⟩ := ts
  cases ts with
  | nil => simp [builtinE] at h
  | cons t rest =>
    simp only [builtinE] at h
    split at h
    case h_2 => cases h
    rename_i et st b q len cap het hst
    split at h
    case h_2 => cases h
    rename_i e z sz cs hd hzc hb
    obtain ⟨i, hi, hs, hby, hz, hue, hu⟩ := elem_info hT hst (.inl hd) (elemTI_slice hst hd het)
    rw [hd] at hu
    have hx0 := hx
    obtain ⟨p, k, rc, hβ, rfl, hlc, hcr, hk, hgrow⟩ := hx
    split at h
    · rename_i hck
      simp only [Bool.and_eq_true, decide_eq_true_eq] at hck
      obtain ⟨⟨⟨hzl, hzo⟩, hlen⟩, hpos⟩ := hck
      simp only [Option.map_eq_some_iff, Prod.mk.injEq] at h
      obtain ⟨cs', hw, rfl, rfl⟩ := h
      simp only [zeroC, Option.map_eq_some_iff] at hzc
      obtain ⟨zv, hzv, rfl⟩ := hzc
      have hzs : 0 < zv.cells.size := by simp at hzl; omega
      have hall := zeros_ok (β := β) (μ := μ) zv hzs len
      have hst' : storeC σ (.ptr b q) (zerosC (zv.cells.toList.map .lit) len) = some { σ with h := σ.h.set b (.row true sz cs') } := by
        unfold storeC
        rw [if_pos (zeros_all hzo len)]
        simp only [hb, hw, Option.map_some]
      have hk' := hk (by omega)
      subst hk'
      obtain ⟨r, k, w', hxe, hrun', hS', hst, hnx⟩ := storeC_ok (P := P) hN hS (c := .ptr b q) ⟨p, hβ, rfl⟩ hall hst'
      cases hxe
      refine ⟨_, .tuple #[], w', β, μ, hrun _ _ ?_, .inl rfl, rfl, hS', hst, fun _ _ => rfl, fun _ _ => rfl, rfl⟩
      obtain ⟨len', rfl⟩ : ∃ l, len = l + 1 := ⟨len - 1, by omega⟩
      simp only [Builtin.clear_]
      simp [run_underlying hu, zeroValue, typeInfo, hi, hz, hzv, Builtin.zeroCells]
      simp at hrun'
      rw [hrun']
      rfl
    · split at h
      · rename_i hl0
        simp only [Option.some.injEq, Prod.mk.injEq] at h
        obtain ⟨rfl, rfl⟩ := h
        subst hl0
        refine OpOk.val hN hS (x := .tuple #[]) (hrun _ _ ?_) rfl
        simp only [Builtin.clear_]
        simp [run_underlying hu]
      · cases h

theorem op_call (hT : TtOk P X) (hF : FlatOk P X) (hN : N ≤ N') (hnm : nm < N') (hβ : β nm = none) (hS : SRel N β μ nt σ a w) {c : Call} (ho : o.op = .call c) (h : op P X fi nm o σ = some (v, σ')) : OpOk P fi N' nm β μ nt σ a w o v σ' := by
  simp only [op, ho] at h
  split at h
  case h_2 => cases h
  rename_i b hcal
  split at h
  case h_2 => cases h
  rename_i vs hvs
  have hargs := evs_ok hS hvs
  have hrun := run_builtinOp (P := P) (a := a) (w := w) ho hcal
  have hmap : (c.args.map a.eval).toList = c.args.toList.map a.eval := by simp
  rw [← hmap] at hargs
  have one : ∀ {y z : V} {xs : List Value}, All2 (VRel β μ) [y] xs → ∃ x, xs = [x] ∧ VRel β μ y x := fun h => h.one
  cases b <;> try (simp [builtinE] at h; done)
  case len =>
    unfold builtinE at h
    split at h <;> try cases h
    case h_1 =>
      rename_i t rest c' hts
      obtain ⟨x, hx1, hx2⟩ := hargs.one
      have harr : c.args.map a.eval = #[x] := by rw [← Array.toList_inj]; exact hx1
      refine op_len (ts := c.argTypes) (ty := o.type) hT hN hS rfl hx2 (nm := nm) (by rw [hts]; unfold builtinE; exact h) fun y w' hy => ?_
      rw [hrun, harr]
      simp [builtin, hy]
    all_goals first | (cases ‹Builtin.len = _›) | skip
  case append =>
    unfold builtinE at h
    split at h
    · cases ‹Builtin.append = _›
    · rename_i t t' s x hts
      split at h
      case isFalse => cases h
      rename_i htt
      subst htt
      split at h
      case h_2 => cases h
      rename_i ti st het hst
      split at h
      case h_2 => cases h
      rename_i e hd
      simp only [Option.map_eq_some_iff, Prod.mk.injEq] at h
      obtain ⟨p, hp, rfl, rfl⟩ := h
      match hxs : (c.args.map a.eval).toList, hargs with
      | [us, ux], hargs =>
        have harr := list2 hxs
        have hty := list2 hts
        refine op_append (by simp [makes, ho, hcal]) (ty := o.type) hT hN hnm hβ hS hst hd (elemTI_slice hst hd het) hargs.1 hargs.2.1 hp fun y w' hy => ?_
        rw [hrun, harr, hty]
        simp [builtin, hy]
    · cases ‹Builtin.append = _›
    · cases ‹Builtin.append = _›
    · cases h
  case delete =>
    unfold builtinE at h
    split at h
    · cases ‹Builtin.delete = _›
    · cases ‹Builtin.delete = _›
    · rename_i t rest m k hts
      split at h
      case h_2 => cases h
      rename_i kv hk
      simp only [Option.map_eq_some_iff, Prod.mk.injEq] at h
      obtain ⟨σ1, h1, rfl, rfl⟩ := h
      match hxs : (c.args.map a.eval).toList, hargs with
      | [um, uk], hargs =>
        have harr := list2 hxs
        have huk : uk = kv := val_ok hk hargs.2.1
        subst huk
        refine op_delete (ts := c.argTypes) (ty := o.type) hT hF hN hS (by rw [← Array.getElem?_toList, ‹c.argTypes.toList = _›]; rfl) hargs.1 h1 fun y w' hy => ?_
        rw [hrun, harr]
        simp [builtin, hy]
    · cases ‹Builtin.delete = _›
    · cases h
  case clear =>
    unfold builtinE at h
    split at h
    · cases ‹Builtin.clear = _›
    · cases ‹Builtin.clear = _›
    · cases ‹Builtin.clear = _›
    · rename_i t rest c' hts
      obtain ⟨x, hx1, hx2⟩ := hargs.one
      have harr : c.args.map a.eval = #[x] := by rw [← Array.toList_inj]; exact hx1
      refine op_clear (ts := c.argTypes) (ty := o.type) hT hN hS rfl hx2 (nm := nm) (by rw [hts]; unfold builtinE; exact h) fun y w' hy => ?_
      rw [hrun, harr]
      simp [builtin, hy]
    · cases h

theorem op_ok (hT : TtOk P X) (hF : FlatOk P X) (hN : N ≤ N') (hnm : nm < N') (hβ : β nm = none) (hS : SRel N β μ nt σ a w) (h : op P X fi nm o σ = some (v, σ')) : OpOk P fi N' nm β μ nt σ a w o v σ' := by
  cases ho : o.op with
  | move x => exact op_move hN hS (.inl ho) (by simpa only [op, ho] using h)
  | assign x => exact op_move hN hS (.inr ho) (by simpa only [op, ho] using h)
  | pick c x y => exact op_pick hN hS ho h
  | extract x i => exact op_extract hN hS ho h
  | alloc e => exact op_alloc hT hN hnm hβ hS ho h
  | box e x => exact op_box hN hnm hβ hS ho h
  | load t x => exact op_load hT hN hS ho h
  | store t x y => exact op_store hT hN hS ho h
  | nilCheck x => exact op_nilCheck hN hS ho h
  | fieldAddr t x f => exact op_fieldAddr hT hN hS ho h
  | field t x f => exact op_field hT hN hS ho h
  | indexAddr t x y => exact op_indexAddr hT hN hS ho h
  | index t x y => exact op_index hT hN hS ho h
  | slice t x lo hi mx => exact op_slice hT hN hS ho h
  | build t ps => exact op_build hT hN hS ho h
  | buildSlice t n ps => exact op_buildSlice hT hN hnm hβ hS ho h
  | makeSlice t l c => exact op_makeSlice hT hN hnm hβ hS ho h
  | makeMap t r =>
    cases r with
    | none => exact op_makeMap hN hnm hβ hS ho h
    | some r => simp [op, ho] at h
  | lookup t x y ok => exact op_lookup hT hF hN hS ho h
  | mapUpdate t m x y => exact op_mapUpdate hT hF hN hS (.inl ho) h
  | insert t m x y => exact op_mapUpdate hT hF hN hS (.inr ho) h
  | makeFunc f fs caps =>
    cases f with
    | func f => exact op_makeFunc hN hS ho h
    | _ => simp [op, ho] at h
  | binOp b t x y t' => exact op_binOp hT hF hN hS ho h
  | call c => exact op_call hT hF hN hnm hβ hS ho h
  | unOp u t x => exact op_pure hN hS (fun _ _ => by rw [ho]; exact fun h => by cases h) (by simpa only [op, ho] using h)
  | convert s t x => exact op_pure hN hS (fun _ _ => by rw [ho]; exact fun h => by cases h) (by simpa only [op, ho] using h)
  | _ => simp [op, ho] at h
end ops
end E
end Go.Proofs.Ytnfehccnofhmnaa
