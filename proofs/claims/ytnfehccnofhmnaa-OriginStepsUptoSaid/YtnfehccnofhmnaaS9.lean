/-
  Symbols in the abstract machine: a law that is true in all ways is true. No condition.
-/
import Derived.Test.YtnfehccnofhmnaaS8
set_option linter.all false
namespace Go.Proofs.Ytnfehccnofhmnaa
open Go.RowKit
namespace E

def isTrueV : V → Bool
  | .one (.lit (.bool b)) => b
  | _ => false

def allTrue : Ways (V × Heap) → Bool
  | some l => l.all fun p => isTrueV p.2.1
  | none => false

def ovOf (l f : FuncId) : Bool := Nat.beq f l

theorem isTrueV_eq {v : V} (h : isTrueV v = true) : v = .one (.lit (.bool true)) := by
  unfold isTrueV at h
  split at h
  · subst h; rfl
  · cases h

/-- A law whose run on symbols is true in all ways. -/
theorem true_of_ways {ρ : Env} {l f : FuncId} {args : List V} {K : Know} {loops n : Nat} (h : allTrue (callS Try.prog X1 FT (ovOf l) (gLiveS l) loops n f args ⟨0, []⟩ K) = true) (hK : Holds ρ K) :
    ∃ h', callO Try.prog X1 FT (ovOf l) (gLive l) loops n f (args.map (V.den ρ)) ⟨0, []⟩ = some (.one (.lit (.bool true)), h') := by
  have := callS_ok (P := Try.prog) zfree ftK (gLiveS_ok (ρ := ρ) (l := l)) (ov := ovOf l) loops n f args ⟨0, []⟩ K hK
  cases hw : callS Try.prog X1 FT (ovOf l) (gLiveS l) loops n f args ⟨0, []⟩ K with
  | none => rw [hw] at h; cases h
  | some ws =>
    rw [hw] at h
    obtain ⟨p, h1, _, h3⟩ := this ws hw
    have hp := isTrueV_eq (List.all_eq_true.1 h p h1)
    rw [hp, V.den_free (ρ := ρ) (v := .one (.lit (.bool true))) rfl] at h3
    exact ⟨_, h3⟩

theorem acall_of_ways {ρ : Env} {l f : FuncId} {args : List V} {K : Know} {loops n : Nat} (hl : isTrue (callN Try.prog X0 FT 100 100 l [] ⟨0, []⟩) = true)
    (h : allTrue (callS Try.prog X1 FT (ovOf l) (gLiveS l) loops n f args ⟨0, []⟩ K) = true) (hK : Holds ρ K) : ∃ h', ACall Try.prog f (args.map (V.den ρ)) ⟨0, []⟩ (.one (.lit (.bool true))) h' := by
  obtain ⟨h', hc⟩ := true_of_ways h hK
  exact ⟨h', callO_ok ttOk1 flatOk1 mixed ftOk (gLive_ok hl) loops n _ _ _ _ _ hc⟩

/-- A law that is true in all ways, called with arguments that its symbols stand for. -/
theorem calls_of_ways {ρ : Env} {l f : FuncId} {args : List V} {xs : List Value} {K : Know} {loops n : Nat} (hl : isTrue (callN Try.prog X0 FT 100 100 l [] ⟨0, []⟩) = true)
    (h : allTrue (callS Try.prog X1 FT (ovOf l) (gLiveS l) loops n f args ⟨0, []⟩ K) = true) (hK : Holds ρ K) (hxs : All2 (VRel (fun _ => none) noF) (args.map (V.den ρ)) xs) (W : World) :
    Calls Try.prog f xs.toArray W fun e w' => e = .returned (.bool true) ∧ Below W.heap.size W w' := by
  obtain ⟨h', _, _, hc⟩ := acall_of_ways hl h hK
  refine (hc (fun _ => none) W xs ⟨fun _ _ => rfl, (fun b x e => by cases e), (fun b b' x x' p p' _ e => by cases e)⟩ hxs).mono fun e w' he => ?_
  obtain ⟨x, β', rfl, hv, _, hst, _⟩ := he
  have hx : x = .bool true := hv
  exact ⟨by rw [hx], step_below (h := ⟨0, []⟩) (fun b x e => by cases e) hst⟩

def sI (k : IntKind) (i : Nat) : C := .lit (.iface 0 (.int k i))
def sS (i : Nat) : C := .lit (.iface 1 (.int .i64 i))
def sB (i : Nat) : C := .lit (.iface 4 (.int .i64 i))
end E
end Go.Proofs.Ytnfehccnofhmnaa
