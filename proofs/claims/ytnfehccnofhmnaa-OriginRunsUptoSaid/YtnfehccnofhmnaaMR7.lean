/-
  The originator's step and the document's, on symbols: they come to the same. No condition.
-/
import Derived.Test.YtnfehccnofhmnaaMR6
set_option linter.all false
namespace Go.Proofs.Ytnfehccnofhmnaa
open Go.RowKit
namespace E

/-- A step's results: the state's cells, the cells of what is sent. -/
def viewOut (v : V) (h : Heap) : Option (List C × List C) :=
  match v with
  | .tup [.agg st, .one (.lit (.slice none 0 0))] => some (st, [])
  | .tup [.agg st, .one (.sl b 0 len _)] => match h.get b with
    | some (.row true 6 cs) => match rd cs 0 (len * 6) with
      | some o => some (st, o)
      | none => none
    | _ => none
  | _ => none

def canonB (K : Know) (v : Value) : Value :=
  match canon K v with
  | .iface 4 (.int k i) => cond (hasFact false false (.iface 4 (.int k i)) (.bool true) K) (.bool false) (.iface 4 (.int k i))
  | v => v

def cellsK (K : Know) : List C → List C → Bool
  | [], [] => true
  | .lit x :: xs, .lit y :: ys => symB 20 (canonB K x) (canonB K y) && cellsK K xs ys
  | _, _ => false

def gNone (_ : FuncId) (_ : List V) (_ : Heap) : Option (V × Heap) := none
def gNoneS (_ : FuncId) (_ : List V) (_ : Heap) (_ : Know) : Ways (V × Heap) := none
def ovNone (_ : FuncId) : Bool := false

def sameView (K : Know) (a b : Option (List C × List C)) : Bool :=
  match a, b with
  | some (s, o), some (s', o') => cellsK K s s' && cellsK K o o'
  | _, _ => false

noncomputable def sameStep (f g : FuncId) (args : List V) (K : Know) : Bool :=
  match callS Try.prog X1 FT ovNone gNoneS 100 100 f args ⟨0, []⟩ K with
  | some l => l.all fun p => match callS Try.prog X1 FT ovNone gNoneS 100 100 g args ⟨0, []⟩ p.1 with
    | some l' => l'.all fun q => sameView q.1 (viewOut p.2.1 p.2.2) (viewOut q.2.1 q.2.2)
    | none => false
  | none => false

section
variable {ρ : Env}

theorem viewOut_den {v : V} {h : Heap} {s o : List C} (e : viewOut v h = some (s, o)) : viewOut (v.den ρ) (h.den ρ) = some (s.map (C.den ρ), o.map (C.den ρ)) := by
  unfold viewOut at e
  split at e
  · simp only [Option.some.injEq, Prod.mk.injEq] at e
    obtain ⟨rfl, rfl⟩ := e
    simp only [V.den, denL, C.den, den_lit (ρ := ρ) (v := .slice none 0 0) rfl, viewOut, List.map_nil]
  · rename_i st b len cap
    split at e
    · rename_i cs hb
      split at e
      · rename_i o' ho
        simp only [Option.some.injEq, Prod.mk.injEq] at e
        obtain ⟨rfl, rfl⟩ := e
        have hb' : (h.den ρ).get b = some (.row true 6 (cs.map (C.den ρ))) := by
          rw [Heap.get_den, hb]
          rfl
        simp only [V.den, denL, C.den, viewOut, hb', rd_den, ho, Option.map_some]
      · cases e
    · cases e
  · cases e

theorem canonB_ok {K : Know} (hK : Holds ρ K) (v : Value) : den ρ (canonB K v) = den ρ v := by
  unfold canonB
  have hc := canon_ok hK v
  split
  · rename_i k i hv
    rw [hv] at hc
    cases hf : hasFact false false (.iface 4 (.int k i)) (.bool true) K with
    | false => rw [cond_false]; exact hc
    | true =>
      rw [cond_true, ← hc]
      have := hasFact_ok hK hf
      simp only [Atom, Bool.false_eq_true, iff_false, den, Value.bool.injEq, Bool.not_eq_true] at this
      simp [den, this]
  · exact hc

theorem cellsK_ok {K : Know} (hK : Holds ρ K) : ∀ {xs ys : List C}, cellsK K xs ys = true → xs.map (C.den ρ) = ys.map (C.den ρ)
  | [], [], _ => rfl
  | [], _ :: _, h => by cases h
  | x :: xs, ys, h => by
    unfold cellsK at h
    split at h
    · rename_i hh
      cases hh
    · rename_i x' xs' y' ys' hh
      cases hh
      rw [Bool.and_eq_true] at h
      simp only [List.map_cons, C.den]
      rw [← canonB_ok hK x', ← canonB_ok hK y', symB_eq _ h.1, cellsK_ok hK h.2]
    · cases h

theorem gNone_ok : GOk Try.prog gNone := fun _ _ _ _ _ e => by cases e
theorem gNoneS_ok : GSok ρ gNone gNoneS := fun _ _ _ _ _ => Snd.none

/-- Two functions whose runs on symbols come to the same, come to the same. -/
theorem same_acall {f g : FuncId} {args : List V} {K : Know} (h : sameStep f g args K = true) (hK : Holds ρ K) :
    ∃ v h1 v' h1' Z, ACall Try.prog f (args.map (V.den ρ)) ⟨0, []⟩ v h1 ∧ ACall Try.prog g (args.map (V.den ρ)) ⟨0, []⟩ v' h1' ∧ viewOut v h1 = some Z ∧ viewOut v' h1' = some Z := by
  unfold sameStep at h
  split at h
  · rename_i l hl
    obtain ⟨p, p1, p2, p3⟩ := callS_ok (P := Try.prog) zfree ftK (gNoneS_ok (ρ := ρ)) (ov := ovNone) 100 100 f args ⟨0, []⟩ K hK l hl
    have h := List.all_eq_true.1 h p p1
    split at h
    · rename_i l' hl'
      obtain ⟨q, q1, q2, q3⟩ := callS_ok (P := Try.prog) zfree ftK (gNoneS_ok (ρ := ρ)) (ov := ovNone) 100 100 g args ⟨0, []⟩ p.1 p2 l' hl'
      have h := List.all_eq_true.1 h q q1
      unfold sameView at h
      split at h
      · rename_i s o s' o' e1 e2
        rw [Bool.and_eq_true] at h
        refine ⟨_, _, _, _, _, callO_ok ttOk1 flatOk1 mixed ftOk gNone_ok 100 100 _ _ _ _ _ p3, callO_ok ttOk1 flatOk1 mixed ftOk gNone_ok 100 100 _ _ _ _ _ q3, viewOut_den e1, ?_⟩
        rw [viewOut_den e2, cellsK_ok q2 h.1, cellsK_ok q2 h.2]
      · cases h
    · cases h
  · cases h
end

set_option maxRecDepth 1000000 in
theorem same0 : sameStep 10 11 [stS 0, evS 100] [] = true := by kernel_rfl
end E
end Go.Proofs.Ytnfehccnofhmnaa
