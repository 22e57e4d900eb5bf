/-
  Symbols in the abstract machine: what an operation does, it does whatever the symbols stand for: all operations. No condition.
-/
import Derived.Test.YtnfehccnofhmnaaS3
set_option linter.all false
namespace Go.Proofs.Ytnfehccnofhmnaa
namespace E

section
variable {ρ : Env} {P : Program} {X : Ctx} {fi : Fi} {nm : Nat} {σ σ' : St} {o : Oper} {v : V}

theorem op_nat (hZ : ZFree X) (hc : operOk o = true) (hn : natOk X σ o = true) (h : op P X fi nm o σ = some (v, σ')) (hv : resOk X σ o v = true) :
    op P X fi nm o (σ.den ρ) = some (v.den ρ, σ'.den ρ) := by
  have hc0 := hc
  have hn0 := hn
  unfold operOk at hc
  unfold natOk at hn
  unfold resOk at hv
  unfold op at h ⊢
  cases hop : o.op <;> simp only [hop] at h ⊢ <;> simp only [hop] at hc hn hv <;> first | (cases h; done) | skip
  case move x =>
    simp only [Op.operands, List.all_cons, Bool.and_eq_true] at hc
    obtain ⟨u, h1, h2⟩ := onV_some h
    rw [onV_den hc.1 h1]
    cases h2
    rfl
  case assign x =>
    simp only [Op.operands, List.all_cons, Bool.and_eq_true] at hc
    obtain ⟨u, h1, h2⟩ := onV_some h
    rw [onV_den hc.1 h1]
    cases h2
    rfl
  case pick c a b =>
    simp only [Op.operands, List.all_cons, Bool.and_eq_true] at hc
    obtain ⟨u, h1, h2⟩ := onC_some h
    rw [onC_den hc.1 h1]
    split at h2
    · rename_i t
      simp only [C.den, den_lit (ρ := ρ) (v := .bool _) rfl]
      cases t with
      | true =>
        obtain ⟨w, g1, g2⟩ := onV_some h2
        cases g2
        show onV (σ.den ρ) a _ = _
        rw [onV_den hc.2.1 g1]
      | false =>
        obtain ⟨w, g1, g2⟩ := onV_some h2
        cases g2
        show onV (σ.den ρ) b _ = _
        rw [onV_den hc.2.2.1 g1]
    · cases h2
  case alloc e =>
    obtain ⟨ti, h1, h2⟩ := onTI_some h
    rw [onTI_eq h1]
    cases hz : zeroC ti with
    | none => rw [hz] at h2; cases h2
    | some cs =>
      rw [hz] at h2
      simp only at h2 ⊢
      split at h2
      · rename_i hl
        rw [if_pos hl]
        have := newVarE_den (ρ := ρ) h2
        rwa [zeroC_free (hZ _ _ h1) hz] at this
      · cases h2
  case box e x =>
    simp only [Op.operands, List.all_cons, Bool.and_eq_true] at hc
    obtain ⟨u, h1, h2⟩ := onV_some h
    rw [onV_den hc.1 h1, V.cells_den]
    cases hu : u.cells with
    | none => rw [hu] at h2; cases h2
    | some cs =>
      rw [hu] at h2
      exact newVarE_den h2
  case build t ps =>
    have hps := ps_free hc
    obtain ⟨ti, h1, h2⟩ := onTI_some h
    rw [onTI_eq h1, evParts_den σ hps]
    cases hz : zeroC ti with
    | none => rw [hz] at h2; cases h2
    | some z =>
      have hzf := zeroC_free (ρ := ρ) (hZ _ _ h1) hz
      rw [hz] at h2
      cases he : evParts σ ps.toList with
      | none => rw [he] at h2; cases h2
      | some vs =>
        rw [he] at h2
        simp only [Option.map_some] at h2 ⊢
        cases hd : ti.desc <;> rw [hd] at h2 <;> simp only at h2 ⊢ <;> first | (cases h2; done) | skip
        · cases hE : elemTI X t with
          | none => rw [hE] at h2; cases h2
          | some et =>
            rw [hE] at h2
            simp only [Option.map_eq_some_iff, Prod.mk.injEq] at h2 ⊢
            obtain ⟨cs, h3, rfl, rfl⟩ := h2
            exact ⟨cs.map (C.den ρ), by rw [← hzf, fillC_den, h3]; rfl, rfl, rfl⟩
        · rename_i fs
          cases hp : placesL X fs.toList with
          | none => rw [hp] at h2; cases h2
          | some pl =>
            rw [hp] at h2
            simp only [Option.map_eq_some_iff, Prod.mk.injEq] at h2 ⊢
            obtain ⟨cs, h3, rfl, rfl⟩ := h2
            exact ⟨cs.map (C.den ρ), by rw [← hzf, fillC_den, h3]; rfl, rfl, rfl⟩
  case buildSlice t n ps =>
    have hps := ps_free hc
    rw [evParts_den σ hps]
    cases hE : elemTI X t with
    | none => rw [hE] at h; cases h
    | some et =>
      rw [hE] at h
      cases he : evParts σ ps.toList with
      | none => rw [he] at h; cases h
      | some vs =>
        rw [he] at h
        cases hX : X.tt t with
        | none => rw [hX] at h; cases h
        | some st =>
          rw [hX] at h
          simp only [Option.map_some] at h ⊢
          cases hz : zeroC et with
          | none => rw [hz] at h; split at h <;> first | (cases h; done) | (rename_i hh; cases hh; done)
          | some z =>
            obtain ⟨e', he'⟩ := elemTI_tt hE
            have hzf := zeroC_free (ρ := ρ) (hZ _ _ he') hz
            rw [hz] at h
            cases hd : st.desc <;> rw [hd] at h <;> simp only at h ⊢ <;> first | (cases h; done) | skip
            split at h
            · rename_i hcnd
              rw [if_pos hcnd]
              split at h
              · rename_i cs hf
                have : fillC (fun i => some (i * et.size, et.size)) (zerosC z n) (pden ρ vs) = some (cs.map (C.den ρ)) := by
                  rw [← hzf, ← zerosC_den, fillC_den, hf]; rfl
                rw [this]
                simp only [Option.map_eq_some_iff, Prod.mk.injEq] at h ⊢
                obtain ⟨σ1, h3, rfl, rfl⟩ := h
                exact ⟨σ1.den ρ, by rw [newRowH_den, h3]; rfl, rfl, rfl⟩
              · cases h
            · cases h
  case load t x =>
    simp only [Op.operands, List.all_cons, Bool.and_eq_true] at hc
    obtain ⟨ti, h1, h2⟩ := onTI_some h
    rw [onTI_eq h1]
    obtain ⟨c, h3, h4⟩ := onC_some h2
    rw [onC_den hc.1 h3, load_den]
    simp only [Option.map_eq_some_iff, Prod.mk.injEq] at h4 ⊢
    obtain ⟨u, h5, rfl, rfl⟩ := h4
    exact ⟨u.den ρ, ⟨u, h5, rfl⟩, rfl, rfl⟩
  case store t x y =>
    simp only [Op.operands, List.all_cons, Bool.and_eq_true] at hc
    obtain ⟨ti, h1, h2⟩ := onTI_some h
    rw [onTI_eq h1]
    obtain ⟨c, h3, h4⟩ := onC_some h2
    rw [onC_den hc.1 h3]
    obtain ⟨u, h5, h6⟩ := onV_some h4
    rw [onV_den hc.2.1 h5, V.cells_den]
    cases hu : u.cells with
    | none => rw [hu] at h6; cases h6
    | some cs =>
      rw [hu] at h6
      simp only [Option.map_some, List.length_map] at h6 ⊢
      split at h6
      · rename_i hl
        rw [if_pos hl, storeC_den]
        simp only [Option.map_eq_some_iff, Prod.mk.injEq] at h6 ⊢
        obtain ⟨σ1, h7, rfl, rfl⟩ := h6
        exact ⟨σ1.den ρ, ⟨σ1, h7, rfl⟩, (V.den_free rfl).symm, rfl⟩
      · cases h6
  case nilCheck x =>
    simp only [Op.operands, List.all_cons, Bool.and_eq_true] at hc
    obtain ⟨c, h3, h4⟩ := onC_some h
    rw [onC_den hc.1 h3]
    cases c <;> simp only at h4 <;> first | (cases h4; done) | skip
    all_goals (cases h4; rfl)
  case fieldAddr t x f =>
    simp only [Op.operands, List.all_cons, Bool.and_eq_true] at hc
    cases hf : fieldTI X t f with
    | none => rw [hf] at h; cases h
    | some p =>
      rw [hf] at h
      simp only at h ⊢
      split at h
      · rename_i hs
        rw [if_pos hs]
        obtain ⟨c, h3, h4⟩ := onC_some h
        rw [onC_den hc.1 h3, shiftC_den]
        simp only [Option.map_eq_some_iff, Prod.mk.injEq] at h4 ⊢
        obtain ⟨u, h5, rfl, rfl⟩ := h4
        exact ⟨u.den ρ, ⟨u, h5, rfl⟩, rfl, rfl⟩
      · cases h
  case field t x f =>
    simp only [Op.operands, List.all_cons, Bool.and_eq_true] at hc
    cases hf : fieldTI X t f with
    | none => rw [hf] at h; cases h
    | some p =>
      rw [hf] at h
      simp only at h ⊢
      obtain ⟨u, h3, h4⟩ := onV_some h
      rw [onV_den hc.1 h3]
      cases u <;> simp only at h4 <;> first | (cases h4; done) | skip
      simp only [V.den, partV_den]
      simp only [Option.map_eq_some_iff, Prod.mk.injEq] at h4 ⊢
      obtain ⟨u, h5, rfl, rfl⟩ := h4
      exact ⟨u.den ρ, ⟨u, h5, rfl⟩, rfl, rfl⟩
  case indexAddr t x i =>
    simp only [Op.operands, List.all_cons, Bool.and_eq_true] at hc
    obtain ⟨c, h3, h4⟩ := onC_some h
    rw [onC_den hc.1 h3]
    obtain ⟨u, h5, h6⟩ := onV_some h4
    rw [onV_den hc.2.1 h5]
    cases hi : idxOf u with
    | none => rw [hi] at h6; cases h6
    | some j =>
      rw [hi] at h6
      rw [idxOf_den hi]
      simp only [Option.map_eq_some_iff, Prod.mk.injEq] at h6 ⊢
      obtain ⟨r, h7, rfl, rfl⟩ := h6
      exact ⟨r.den ρ, idxAddr_den h7, rfl, rfl⟩
  case index t x i =>
    have hc1 := hc
    simp only [Op.operands, List.all_cons, Bool.and_eq_true] at hc
    have hpure : elemTI X t = none → op.pureV P o σ = some (v, σ') → op.pureV P o (σ.den ρ) = some (v.den ρ, σ'.den ρ) := fun ha hp => by
      have hag : aggIdx X σ t x = false := by unfold aggIdx; rw [ha]; simp
      rw [hag, Bool.false_or] at hn hv
      exact pureV_den hc0 (by rw [hop]; exact hn) (fun cs b => by rw [hop]; simp) hp hv
    cases hX : X.tt t with
    | none =>
      rw [hX] at h
      have hE : elemTI X t = none := by unfold elemTI; rw [hX]
      exact hpure hE h
    | some ti =>
      cases hE : elemTI X t with
      | none =>
        rw [hX, hE] at h
        exact hpure hE h
      | some et =>
        rw [hX, hE] at h
        simp only at h ⊢
        obtain ⟨u, h1, h2⟩ := onV_some h
        rw [onV_den hc.1 h1]
        obtain ⟨w, h3, h4⟩ := onV_some h2
        rw [onV_den hc.2.1 h3]
        split at h4
        · rename_i n e cs j hd hj
          rw [hd, idxOf_den hj]
          simp only [V.den]
          split at h4
          · rename_i hcnd
            rw [if_pos hcnd, partV_den]
            simp only [Option.map_eq_some_iff, Prod.mk.injEq] at h4 ⊢
            obtain ⟨u, h5, rfl, rfl⟩ := h4
            exact ⟨u.den ρ, ⟨u, h5, rfl⟩, rfl, rfl⟩
          · cases h4
        · cases h4
  case slice t x lo hi mx =>
    have hf : ∀ y, y ∈ o.op.operands.toList → freeAt σ y = true ∧ cfree y = true := fun y hy => ⟨List.all_eq_true.1 hn y (by rw [← hop]; exact hy), List.all_eq_true.1 hc0 y hy⟩
    have hx := hf x (by rw [hop]; simp [Op.operands])
    have hlo : optIdx (σ.den ρ) lo = optIdx σ lo := optIdx_free fun y hy => hf y (by rw [hop, hy]; simp [Op.operands])
    have hhi : optIdx (σ.den ρ) hi = optIdx σ hi := optIdx_free fun y hy => hf y (by rw [hop, hy]; simp [Op.operands])
    have hmx : optIdx (σ.den ρ) mx = optIdx σ mx := optIdx_free fun y hy => hf y (by rw [hop, hy]; simp [Op.operands])
    rw [hlo, hhi, hmx, ev_free hx.2 hx.1]
    split at h
    case h_2 => cases h
    rename_i l h' m e1 e2 e3
    split at h
    · exact pureV_den hc0 (by rw [hop]; exact hn) (fun cs b => by rw [hop]; simp) h hv
    · rename_i c hne hev
      simp only [sliceE_den, Option.map_eq_some_iff, Prod.mk.injEq] at h ⊢
      obtain ⟨r, h5, rfl, rfl⟩ := h
      exact ⟨r, h5, (V.den_free hv).symm, rfl⟩
    · cases h
  case binOp b t x y _ =>
    have hf : ∀ y, y ∈ o.op.operands.toList → freeAt σ y = true ∧ cfree y = true := fun y hy => ⟨List.all_eq_true.1 hn y (by rw [← hop]; exact hy), List.all_eq_true.1 hc0 y hy⟩
    have hx := hf x (by rw [hop]; simp [Op.operands])
    have hy := hf y (by rw [hop]; simp [Op.operands])
    obtain ⟨u, h1, h2⟩ := onV_some h
    rw [onV_den hx.2 h1, V.den_free (free_of hx.1 h1)]
    obtain ⟨w, h3, h4⟩ := onV_some h2
    rw [onV_den hy.2 h3, V.den_free (free_of hy.1 h3)]
    split at h4
    · simp only [Option.some.injEq, Prod.mk.injEq] at h4 ⊢
      obtain ⟨rfl, rfl⟩ := h4
      exact ⟨(V.den_free hv).symm, rfl⟩
    · exact pureV_den hc0 (by rw [hop]; exact hn) (fun cs b => by rw [hop]; simp) h4 hv
  case extract x i =>
    simp only [Op.operands, List.all_cons, Bool.and_eq_true] at hc
    obtain ⟨u, h1, h2⟩ := onV_some h
    rw [onV_den hc.1 h1]
    cases u <;> simp only at h2 <;> first | (cases h2; done) | skip
    simp only [V.den, denL_eq, List.getElem?_map]
    simp only [Option.map_eq_some_iff, Prod.mk.injEq] at h2 ⊢
    obtain ⟨u, h5, rfl, rfl⟩ := h2
    exact ⟨u.den ρ, ⟨u, h5, rfl⟩, rfl, rfl⟩
  case unOp =>
    exact pureV_den hc0 (by rw [hop]; exact hn) (fun cs b => by rw [hop]; simp) h hv
  case convert =>
    exact pureV_den hc0 (by rw [hop]; exact hn) (fun cs b => by rw [hop]; simp) h hv
  case makeFunc fn fs caps =>
    cases fn <;> simp only at h ⊢ <;> first | (cases h; done) | skip
    split at h
    · rename_i hfs
      rw [if_pos hfs]
      have hcc : caps.toList.all cfree = true := by
        simp only [Op.operands, Array.toList_append, List.all_append, Bool.and_eq_true] at hc
        exact hc.2
      rw [evs_den σ hcc]
      cases he : evs σ caps.toList with
      | none => rw [he] at h; cases h
      | some vs =>
        rw [he] at h
        simp only [Option.map_eq_some_iff, Prod.mk.injEq, Option.map_some] at h ⊢
        obtain ⟨l, h5, rfl, rfl⟩ := h
        exact ⟨l, capsOf_den h5, rfl, rfl⟩
    · cases h
  case makeMap t r =>
    cases r with
    | some _ => cases h
    | none =>
      simp only [Option.some.injEq, Prod.mk.injEq] at h ⊢
      obtain ⟨rfl, rfl⟩ := h
      exact ⟨rfl, St.set_den σ nm (.map [] 0)⟩
  case makeSlice t l c =>
    simp only [Op.operands, List.all_cons, Bool.and_eq_true] at hc
    obtain ⟨u, h1, h2⟩ := onV_some h
    rw [onV_den hc.1 h1]
    obtain ⟨w, h3, h4⟩ := onV_some h2
    rw [onV_den hc.2.1 h3]
    split at h4
    case h_2 => cases h4
    rename_i et st n m hE hX
    try simp only [hE, hX]
    have hint : ∀ (n : Int), V.den ρ (.one (.lit (.int .i64 n))) = .one (.lit (.int .i64 n)) := fun n => V.den_free rfl
    simp only [hint]
    cases hd : st.desc <;> rw [hd] at h4 <;> simp only at h4 ⊢ <;> first | (cases h4; done) | skip
    unfold makeSliceE at h4 ⊢
    cases hz : zeroC et with
    | none => rw [hz] at h4; cases h4
    | some z =>
      obtain ⟨e', he'⟩ := elemTI_tt hE
      have hzf := zeroC_free (ρ := ρ) (hZ _ _ he') hz
      rw [hz] at h4
      simp only at h4 ⊢
      split at h4
      · rename_i hcnd
        rw [if_pos hcnd]
        simp only [Option.map_eq_some_iff, Prod.mk.injEq] at h4 ⊢
        obtain ⟨σ1, h5, rfl, rfl⟩ := h4
        refine ⟨σ1.den ρ, ?_, rfl, rfl⟩
        have := newRowH_den (ρ := ρ) σ nm et.size (zerosC z m.toNat)
        rw [zerosC_den, hzf, h5] at this
        exact this
      · cases h4
  case lookup t x i ok =>
    have hf : ∀ y, y ∈ o.op.operands.toList → freeAt σ y = true ∧ cfree y = true := fun y hy => ⟨List.all_eq_true.1 hn y (by rw [← hop]; exact hy), List.all_eq_true.1 hc0 y hy⟩
    have hx := hf x (by rw [hop]; simp [Op.operands])
    have hi := hf i (by rw [hop]; simp [Op.operands])
    obtain ⟨c, h1, h2⟩ := onC_some h
    have hcf : c.free = true := free_of hx.1 h1
    rw [onC_den hx.2 h1, C.den_free hcf]
    obtain ⟨w, h3, h4⟩ := onV_some h2
    rw [onV_den hi.2 h3, V.den_free (free_of hi.1 h3)]
    split at h4
    · rename_i k hk
      try simp only [hk]
      simp only [Option.map_eq_some_iff, Prod.mk.injEq] at h4 ⊢
      obtain ⟨r, h5, rfl, rfl⟩ := h4
      exact ⟨r.den ρ, lookupE_den hZ hcf h5, rfl, rfl⟩
    · cases h4
  case mapUpdate t m k x =>
    simp only [Op.operands, List.all_cons, Bool.and_eq_true] at hc
    obtain ⟨c, h1, h2⟩ := onC_some h
    rw [onC_den hc.1 h1]
    obtain ⟨w, h3, h4⟩ := onV_some h2
    rw [onV_den hc.2.1 h3]
    obtain ⟨z, h5, h6⟩ := onV_some h4
    rw [onV_den hc.2.2.1 h5]
    split at h6
    · rename_i kv hk
      rw [val?_free (free_of hn h3) hk]
      simp only [Option.map_eq_some_iff, Prod.mk.injEq] at h6 ⊢
      obtain ⟨σ1, h7, rfl, rfl⟩ := h6
      exact ⟨σ1.den ρ, updateE_den h7, (V.den_free rfl).symm, rfl⟩
    · cases h6
  case insert t m k x =>
    simp only [Op.operands, List.all_cons, Bool.and_eq_true] at hc
    obtain ⟨c, h1, h2⟩ := onC_some h
    rw [onC_den hc.1 h1]
    obtain ⟨w, h3, h4⟩ := onV_some h2
    rw [onV_den hc.2.1 h3]
    obtain ⟨z, h5, h6⟩ := onV_some h4
    rw [onV_den hc.2.2.1 h5]
    split at h6
    · rename_i kv hk
      rw [val?_free (free_of hn h3) hk]
      simp only [Option.map_eq_some_iff, Prod.mk.injEq] at h6 ⊢
      obtain ⟨σ1, h7, rfl, rfl⟩ := h6
      exact ⟨σ1.den ρ, updateE_den h7, (V.den_free rfl).symm, rfl⟩
    · cases h6
  case call c =>
    have hca := cfree_args hc
    cases hcal : c.callee with
    | value f => rw [hcal] at h; cases h
    | invoke r n => rw [hcal] at h; cases h
    | builtin b =>
      rw [hcal] at h hn
      simp only at h ⊢
      rw [evs_den σ hca]
      cases he : evs σ c.args.toList with
      | none => rw [he] at h; cases h
      | some vs =>
        rw [he] at h
        simp only [Option.map_some] at h ⊢
        refine bi_den hZ (fun hb => ?_) h
        subst hb
        simp only at hn
        clear h hc hc0 hn0 hca hcal hop
        generalize c.args.toList = l at he hn
        induction l generalizing vs with
        | nil => cases he; rfl
        | cons x l ih =>
          simp only [evs] at he
          simp only [List.all_cons, Bool.and_eq_true] at hn
          split at he
          · rename_i u us e1 e2
            cases he
            show (V.free u && freeL us) = true
            rw [free_of hn.1 e1, ih us e2 hn.2]
            rfl
          · cases he
end
end E
end Go.Proofs.Ytnfehccnofhmnaa
