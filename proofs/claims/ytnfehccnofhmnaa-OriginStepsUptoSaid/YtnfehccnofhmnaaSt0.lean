/-
  The law OriginSteps on symbols: its arguments; a split of what is known. No condition.
-/
import Derived.Test.YtnfehccnofhmnaaS9
set_option linter.all false
namespace Go.Proofs.Ytnfehccnofhmnaa
open Go.RowKit
namespace E
def letS (i : Nat) : List C := [sI .i64 i, sI .i64 (i + 1), sI .u64 (i + 2), sS (i + 3), sB (i + 4)]
def stS (i : Nat) : V := .agg ([sI .i64 i, sI .u64 (i + 1), sS (i + 2), sI .i64 (i + 3)] ++ letS (i + 4))
def evS (i : Nat) : V := .agg ([sI .i64 i, sI .u64 (i + 1), sS (i + 2)] ++ letS (i + 3))

theorem splitK {ρ : Env} {K : Know} {G : Prop} (lt : Bool) (x y : Value) (ht : Holds ρ (⟨lt, x, y, true⟩ :: K) → G) (hf : Holds ρ (⟨lt, x, y, false⟩ :: K) → G) (hK : Holds ρ K) : G := by
  by_cases ha : Atom ρ lt x y
  · exact ht (hK.cons (by simpa [Fact.holds] using ha))
  · exact hf (hK.cons (by simpa [Fact.holds] using ha))

set_option maxRecDepth 1000000 in
theorem origin_live : isTrue (callN Try.prog X0 FT 100 100 9 [] ⟨0, []⟩) = true := by kernel_rfl
end E
end Go.Proofs.Ytnfehccnofhmnaa
