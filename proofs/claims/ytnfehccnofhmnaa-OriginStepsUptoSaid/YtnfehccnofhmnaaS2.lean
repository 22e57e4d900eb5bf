/-
  Symbols in the abstract machine: what the machine does, it does whatever the symbols stand for: memory, values. No condition.
-/
import Derived.Test.YtnfehccnofhmnaaS1
set_option linter.all false
namespace Go.Proofs.Ytnfehccnofhmnaa
namespace E

section
variable {ρ : Env}

theorem C.den_free {c : C} (h : c.free = true) : c.den ρ = c := by
  cases c with
  | lit v =>
    simp only [C.free, Bool.not_eq_true'] at h
    simp only [C.den, den_lit h]
  | _ => rfl

theorem map_den_free {cs : List C} (h : cs.all C.free = true) : cs.map (C.den ρ) = cs := by
  induction cs with
  | nil => rfl
  | cons c cs ih =>
    simp only [List.all_cons, Bool.and_eq_true] at h
    simp only [List.map_cons, C.den_free h.1, ih h.2]

theorem C.den_lit_plain {v : Value} : Value.plain (E.den ρ v) = true ∨ (Value.isSym v = false ∧ E.den ρ v = v) := by
  cases h : Value.isSym v with
  | true => exact .inl (den_sym h)
  | false => exact .inr ⟨rfl, den_lit h⟩

theorem C.den_ok (c : C) : (c.den ρ).ok = c.ok := by
  cases c with
  | lit v =>
    cases h : Value.isSym v with
    | true =>
      have h2 := den_sym (ρ := ρ) h
      have : (C.lit v).ok = true := by cases v <;> first | rfl | cases h
      rw [this]
      simp only [C.den]
      cases hd : E.den ρ v <;> rw [hd] at h2 <;> first | rfl | cases h2
    | false => simp only [C.den, den_lit h]
  | _ => rfl

theorem all_ok_den (cs : List C) : (cs.map (C.den ρ)).all C.ok = cs.all C.ok := by
  rw [List.all_map]
  congr 1
  funext c
  exact C.den_ok c

theorem denL_eq : ∀ (vs : List V), denL ρ vs = vs.map (V.den ρ)
  | [] => rfl
  | v :: vs => by simp only [denL, List.map_cons, denL_eq vs]

mutual
theorem V.den_free : ∀ {v : V}, v.free = true → v.den ρ = v
  | .one c, h => by
    simp only [V.den, C.den_free (show c.free = true from h)]
  | .agg cs, h => by
    simp only [V.den, map_den_free (show cs.all C.free = true from h)]
  | .tup vs, h => by
    simp only [V.den, denL_free (show freeL vs = true from h)]
theorem denL_free : ∀ {vs : List V}, freeL vs = true → denL ρ vs = vs
  | [], _ => rfl
  | v :: vs, h => by
    have h : (V.free v && freeL vs) = true := h
    simp only [Bool.and_eq_true] at h
    simp only [denL, V.den_free h.1, denL_free h.2]
end

theorem get_map {α β : Type} (g : α → β) : ∀ (l : List (Nat × α)) (t : Nat), get (l.map fun p => (p.1, g p.2)) t = (get l t).map g
  | [], _ => rfl
  | (k, x) :: l, t => by
    simp only [List.map_cons, get]
    cases Nat.beq k t with
    | true => rfl
    | false => exact get_map g l t

theorem setL_map {α β : Type} (g : α → β) (b : Nat) (x : α) : ∀ (l : List (Nat × α)), setL b (g x) (l.map fun p => (p.1, g p.2)) = (setL b x l).map fun p => (p.1, g p.2)
  | [] => rfl
  | (k, y) :: l => by
    simp only [List.map_cons, setL]
    cases Nat.beq k b with
    | true => rfl
    | false => simp only [cond_false, List.map_cons, setL_map g b x l]

theorem delL_map {α β : Type} (g : α → β) (b : Nat) : ∀ (l : List (Nat × α)), delL b (l.map fun p => (p.1, g p.2)) = (delL b l).map fun p => (p.1, g p.2)
  | [] => rfl
  | (k, y) :: l => by
    simp only [List.map_cons, delL]
    cases Nat.beq k b with
    | true => exact delL_map g b l
    | false => simp only [cond_false, List.map_cons, delL_map g b l]

theorem get_envDen (l : List (Nat × V)) (t : Nat) : get (envDen ρ l) t = (get l t).map (V.den ρ) := get_map _ l t
theorem get_bxDen (l : List (Nat × List C)) (t : Nat) : get (bxDen ρ l) t = (get l t).map (List.map (C.den ρ)) := get_map _ l t
theorem Heap.get_den (h : Heap) (b : Nat) : (h.den ρ).get b = (h.get b).map (Blk.den ρ) := get_map _ h.bs b
theorem Heap.set_den (h : Heap) (b : Nat) (x : Blk) : (h.den ρ).set b (x.den ρ) = (h.set b x).den ρ := by
  simp only [Heap.set, Heap.den, bsDen, setL_map]
theorem Heap.set_row (h : Heap) (b : Nat) (rw' : Bool) (sz : Nat) (cs : List C) : (h.den ρ).set b (.row rw' sz (cs.map (C.den ρ))) = (h.set b (.row rw' sz cs)).den ρ := Heap.set_den h b (.row rw' sz cs)
theorem Heap.del_den (h : Heap) (b : Nat) : (h.den ρ).del b = (h.del b).den ρ := by
  simp only [Heap.del, Heap.den, bsDen, delL_map]

theorem V.cells_den (v : V) : (v.den ρ).cells = v.cells.map (List.map (C.den ρ)) := by
  cases v <;> rfl

def cfree : Operand → Bool
  | .const v => (V.ofVal v).free
  | _ => true

theorem ev_den (σ : St) {x : Operand} (hx : cfree x = true) : ev (σ.den ρ) x = (ev σ x).map (V.den ρ) := by
  cases x with
  | tmp t => exact get_envDen σ.env t
  | const v => simp only [ev, Option.map_some, V.den_free (show (V.ofVal v).free = true from hx)]
  | global _ => rfl
  | func f => rfl

theorem evs_den (σ : St) : ∀ {l : List Operand}, l.all cfree = true → evs (σ.den ρ) l = (evs σ l).map (List.map (V.den ρ))
  | [], _ => rfl
  | x :: l, h => by
    simp only [List.all_cons, Bool.and_eq_true] at h
    simp only [evs, ev_den σ h.1, evs_den σ h.2]
    cases ev σ x <;> cases evs σ l <;> rfl

def pden (ρ : Env) (l : List (Nat × V)) : List (Nat × V) := l.map fun p => (p.1, p.2.den ρ)

theorem evParts_den (σ : St) : ∀ {l : List (Nat × Operand)}, (l.all fun p => cfree p.2) = true → evParts (σ.den ρ) l = (evParts σ l).map (pden ρ)
  | [], _ => rfl
  | (i, x) :: l, h => by
    simp only [List.all_cons, Bool.and_eq_true] at h
    simp only [evParts, ev_den σ h.1, evParts_den σ h.2]
    cases ev σ x <;> cases evParts σ l <;> rfl

theorem rd_den (cs : List C) (o n : Nat) : rd (cs.map (C.den ρ)) o n = (rd cs o n).map (List.map (C.den ρ)) := by
  unfold rd
  rw [List.length_map]
  split
  · simp only [Option.map_some, List.map_take, List.map_drop]
  · rfl

theorem wr_den (cs : List C) (o : Nat) (xs : List C) : wr (cs.map (C.den ρ)) o (xs.map (C.den ρ)) = (wr cs o xs).map (List.map (C.den ρ)) := by
  unfold wr
  rw [List.length_map, List.length_map]
  split
  · simp only [Option.map_some, List.map_append, List.map_take, List.map_drop]
  · rfl

theorem loadC_den (σ : St) (c : C) (n : Nat) : loadC (σ.den ρ) (c.den ρ) n = (loadC σ c n).map (List.map (C.den ρ)) := by
  cases c with
  | lit v => rfl
  | ptr b o =>
    simp only [loadC, C.den, St.den, Heap.get_den]
    cases σ.h.get b with
    | none => rfl
    | some x => cases x with
      | row rw sz cs => exact rd_den cs o n
      | map es clock => rfl
  | lp t o =>
    simp only [loadC, C.den, St.den, get_bxDen]
    cases get σ.bx t with
    | none => rfl
    | some cs => exact rd_den cs o n
  | _ => rfl

theorem storeC_den (σ : St) (c : C) (xs : List C) : storeC (σ.den ρ) (c.den ρ) (xs.map (C.den ρ)) = (storeC σ c xs).map (St.den ρ) := by
  unfold storeC
  rw [all_ok_den]
  split
  · cases c with
    | lit v => rfl
    | ptr b o =>
      simp only [C.den, St.den, Heap.get_den]
      cases σ.h.get b with
      | none => rfl
      | some x => cases x with
        | row rw sz cs =>
          cases rw with
          | true =>
            simp only [Option.map_some, Blk.den, wr_den]
            cases wr cs o xs with
            | none => rfl
            | some cs' =>
              simp only [Option.map_some]
              rw [Heap.set_row]
              rfl
          | false => rfl
        | map es clock => rfl
    | lp t o =>
      simp only [C.den, St.den, get_bxDen]
      cases get σ.bx t with
      | none => rfl
      | some cs =>
        simp only [Option.map_some, Option.bind_some, wr_den]
        cases wr cs o xs with
        | none => rfl
        | some cs' =>
          simp only [Option.map_some, bxDen, setL_map, St.den]
    | _ => rfl
  · rfl

theorem mkV_den (b : Bool) (cs : List C) : mkV b (cs.map (C.den ρ)) = (mkV b cs).map (V.den ρ) := by
  cases b with
  | true => rfl
  | false => match cs with
    | [] => rfl
    | [c] => rfl
    | _ :: _ :: _ => rfl

theorem load_den (ti : TI) (σ : St) (c : C) : load ti (σ.den ρ) (c.den ρ) = (load ti σ c).map (V.den ρ) := by
  unfold load
  rw [loadC_den]
  cases loadC σ c (sizeV ti) with
  | none => rfl
  | some cs => exact mkV_den _ cs

theorem partV_den (ti : TI) (cs : List C) (o : Nat) : partV ti (cs.map (C.den ρ)) o = (partV ti cs o).map (V.den ρ) := by
  unfold partV
  rw [rd_den]
  cases rd cs o (sizeV ti) with
  | none => rfl
  | some cs => exact mkV_den _ cs

theorem fillC_den (place : Nat → Option (Nat × Nat)) : ∀ (cs : List C) (l : List (Nat × V)), fillC place (cs.map (C.den ρ)) (pden ρ l) = (fillC place cs l).map (List.map (C.den ρ))
  | cs, [] => rfl
  | cs, (i, v) :: l => by
    simp only [pden, List.map_cons, fillC, V.cells_den]
    cases place i with
    | none => rfl
    | some p =>
      cases v.cells with
      | none => rfl
      | some xs =>
        simp only [Option.map_some, List.length_map, all_ok_den]
        split
        · rw [wr_den]
          cases wr cs p.1 xs with
          | none => rfl
          | some cs' => exact fillC_den place cs' l
        · rfl

/-- A type's zero has no symbol. -/
def tiFree (ti : TI) : Bool :=
  match ti.zero with
  | some z => z.cells.toList.all fun v => !Value.isSym v
  | none => true

theorem zeroC_free {ti : TI} (h : tiFree ti = true) {cs : List C} (hz : zeroC ti = some cs) : cs.map (C.den ρ) = cs := by
  unfold tiFree at h
  unfold zeroC at hz
  cases hz' : ti.zero with
  | none => rw [hz'] at hz; cases hz
  | some z =>
    rw [hz'] at h hz
    simp only [Option.map_some, Option.some.injEq] at hz
    subst hz
    refine map_den_free ?_
    rw [List.all_map]
    simpa [Function.comp_def, C.free] using h

theorem ofVal_free {z : Value} (h : (z.cells.toList.all fun v => !Value.isSym v) = true) : (V.ofVal z).free = true := by
  cases z <;> first | (simp only [V.ofVal, V.free, List.all_map]; simpa [Function.comp_def, C.free, Value.cells] using h) | (simpa [V.ofVal, V.free, C.free, Value.cells] using h)

theorem zerosC_den (z : List C) : ∀ (n : Nat), (zerosC z n).map (C.den ρ) = zerosC (z.map (C.den ρ)) n
  | 0 => rfl
  | n + 1 => by simp only [zerosC, List.map_append, zerosC_den z n]

theorem newRowH_den (σ : St) (nm sz : Nat) (cs : List C) : newRowH (σ.den ρ) nm sz (cs.map (C.den ρ)) = (newRowH σ nm sz cs).map (St.den ρ) := by
  unfold newRowH
  rw [all_ok_den]
  split
  · simp only [Option.map_some, St.den]
    rw [Heap.set_row]
  · rfl

theorem mentionsC_den (t : Nat) (c : C) : mentionsC t (c.den ρ) = mentionsC t c := by cases c <;> rfl

theorem any_mentionsC_den (t : Nat) (cs : List C) : (cs.map (C.den ρ)).any (mentionsC t) = cs.any (mentionsC t) := by
  rw [List.any_map]
  congr 1
  funext c
  exact mentionsC_den t c

theorem mentionsV_den (t : Nat) (v : V) : mentionsV t (v.den ρ) = mentionsV t v := by
  cases v with
  | one c => exact mentionsC_den t c
  | agg cs => exact any_mentionsC_den t cs
  | tup vs =>
    simp only [V.den, denL_eq, mentionsV, List.any_map]
    congr 1
    funext v
    cases v with
    | one c => exact mentionsC_den t c
    | agg cs => exact any_mentionsC_den t cs
    | tup _ => rfl

theorem newBox_den (σ : St) (t : Nat) (cs : List C) : newBox (σ.den ρ) t (cs.map (C.den ρ)) = (newBox σ t cs).map (St.den ρ) := by
  unfold newBox
  have h1 : (get (σ.den ρ).bx t).isNone = (get σ.bx t).isNone := by
    show (get (bxDen ρ σ.bx) t).isNone = _
    rw [get_bxDen]
    cases get σ.bx t <;> rfl
  have h2 : ((σ.den ρ).env.any fun p => mentionsV t p.2) = σ.env.any fun p => mentionsV t p.2 := by
    show ((envDen ρ σ.env).any fun p => mentionsV t p.2) = _
    rw [envDen, List.any_map]
    congr 1
    funext p
    exact mentionsV_den t p.2
  rw [all_ok_den, h1, h2]
  split <;> rfl

theorem den_plain_cases {v : Value} (hs : Value.isSym v = true) : (∃ k n, E.den ρ v = .int k n) ∨ (∃ s, E.den ρ v = .string s) ∨ ∃ b, E.den ρ v = .bool b := by
  have := den_sym (ρ := ρ) hs
  cases hd : E.den ρ v <;> rw [hd] at this <;> first | (cases this; done) | simp

theorem sliceCells_den {σ : St} {sz : Nat} {c : C} {cs : List C} (h : sliceCells σ sz c = some cs) : sliceCells (σ.den ρ) sz (c.den ρ) = some (cs.map (C.den ρ)) := by
  unfold sliceCells at h
  split at h
  · cases h
    simp only [C.den, den_lit (ρ := ρ) (v := .slice none _ _) rfl, sliceCells, List.map_nil]
  · rename_i b o len cap
    simp only [C.den, sliceCells, St.den, Heap.get_den]
    cases hb : σ.h.get b with
    | none => rw [hb] at h; cases h
    | some x => cases x with
      | row rw sz' cs' =>
        rw [hb] at h
        simp only at h
        simp only [Option.map_some, Blk.den, rd_den, h]
      | map es clock => rw [hb] at h; cases h
  · cases h

theorem lenC_den {c : C} {n : Nat} (h : lenC c = some n) : lenC (c.den ρ) = some n := by
  unfold lenC at h
  split at h
  · simpa only [C.den, den_lit (ρ := ρ) (v := .slice none _ _) rfl, lenC] using h
  · simpa only [C.den, lenC] using h
  · simpa only [C.den, den_lit (ρ := ρ) (v := .string _) rfl, lenC] using h
  · cases h

theorem appendC_den {ti : TI} {nm : Nat} {σ σ' : St} {s x r : C} (h : appendC ti nm σ s x = some (r, σ')) : appendC ti nm (σ.den ρ) (s.den ρ) (x.den ρ) = some (r.den ρ, σ'.den ρ) := by
  unfold appendC at h ⊢
  split at h
  case h_2 => cases h
  rename_i news m h1 h2
  rw [sliceCells_den h1, lenC_den h2]
  simp only [all_ok_den, List.length_map]
  split at h
  case isFalse => cases h
  rename_i hc
  rw [if_pos hc]
  split at h
  · simp only [C.den, den_lit (ρ := ρ) (v := .slice none 0 0) rfl]
    split at h
    · rename_i hm
      rw [if_pos hm]
      cases h
      simp only [C.den, den_lit (ρ := ρ) (v := .slice none 0 0) rfl]
    · rename_i hm
      rw [if_neg hm]
      split at h
      · rename_i hb
        rw [if_pos hb]
        cases h
        simp only [C.den, St.den]
        rw [Heap.set_row]
      · cases h
  · rename_i b o len cap
    simp only [C.den, St.den, Heap.get_den]
    cases hb : σ.h.get b with
    | none => rw [hb] at h; cases h
    | some blk => cases blk with
      | map es clock => rw [hb] at h; cases h
      | row rw sz cs =>
        rw [hb] at h
        cases rw with
        | false => cases h
        | true =>
          simp only at h
          simp only [Option.map_some, Blk.den, List.length_map]
          split at h
          · rename_i hm
            rw [if_pos hm]
            cases h
            rfl
          · rename_i hm
            rw [if_neg hm]
            split at h
            · rename_i hl
              rw [if_pos hl, wr_den]
              cases hw : wr cs (o + len * ti.size) news with
              | none => rw [hw] at h; cases h
              | some cs' =>
                rw [hw] at h
                simp only [Option.map_some, Option.some.injEq, Prod.mk.injEq] at h
                obtain ⟨rfl, rfl⟩ := h
                simp only [Option.map_some]
                rw [Heap.set_row]
            · rename_i hl
              rw [if_neg hl]
              split at h
              · rename_i hb2
                rw [if_pos hb2, rd_den]
                cases hw : rd cs o (len * ti.size) with
                | none => rw [hw] at h; cases h
                | some cs' =>
                  rw [hw] at h
                  simp only [Option.map_some, Option.some.injEq, Prod.mk.injEq] at h
                  obtain ⟨rfl, rfl⟩ := h
                  simp only [Option.map_some, Heap.del_den]
                  rw [← List.map_append, Heap.set_row]
              · cases h
  · cases h

theorem shiftC_den (c : C) (k : Nat) : shiftC (c.den ρ) k = (shiftC c k).map (C.den ρ) := by cases c <;> rfl

theorem szOk_den (σ : St) (b sz l : Nat) : szOk (σ.den ρ) b sz l = szOk σ b sz l := by
  unfold szOk
  simp only [St.den, Heap.get_den]
  cases σ.h.get b with
  | none => rfl
  | some x => cases x <;> rfl

theorem idxOf_den {v : V} {i : Int} (h : idxOf v = some i) : idxOf (v.den ρ) = some i := by
  unfold idxOf at h
  split at h
  · simpa only [V.den, C.den, den_lit (ρ := ρ) (v := .int _ _) rfl, idxOf] using h
  · cases h

theorem idxAddr_den {X : Ctx} {t : TypeId} {c r : C} {i : Int} (h : idxAddr X t c i = some r) : idxAddr X t (c.den ρ) i = some (r.den ρ) := by
  unfold idxAddr at h ⊢
  cases hX : X.tt t with
  | none => rw [hX] at h; cases h
  | some ti =>
    rw [hX] at h
    simp only at h ⊢
    cases hd : ti.desc <;> rw [hd] at h <;> simp only at h ⊢ <;> first | (cases h; done) | skip
    · rename_i e
      cases hE : X.tt e with
      | none => rw [hE] at h; cases h
      | some et =>
        rw [hE] at h
        cases c <;> simp only at h <;> first | (cases h; done) | skip
        simp only [C.den]
        split at h
        · rename_i hc
          rw [if_pos hc]
          cases h
          rfl
        · cases h
    · rename_i len e
      cases hE : X.tt e with
      | none => rw [hE] at h; cases h
      | some et =>
        rw [hE] at h
        simp only at h ⊢
        split at h
        · rename_i hc
          rw [if_pos hc, shiftC_den, h]
          rfl
        · cases h

theorem capsOf_den : ∀ {vs : List V} {l : List (Nat × Nat)}, capsOf vs = some l → capsOf (vs.map (V.den ρ)) = some l
  | [], _, h => h
  | v :: vs, l, h => by
    unfold capsOf at h
    split at h
    · rename_i hh; cases hh
    · rename_i b o vs' hh
      cases hh
      cases hc : capsOf vs with
      | none => rw [hc] at h; cases h
      | some l' =>
        rw [hc] at h
        simp only [List.map_cons, V.den, C.den, capsOf, capsOf_den hc]
        exact h
    · cases h
end
end E
end Go.Proofs.Ytnfehccnofhmnaa
