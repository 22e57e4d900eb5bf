/-
  No cell of these rows narrows 'for every input' (looked for: loops, veiled, ifaces, maps, wideKeys, modest, calm, conditions, laid).
  DERIVED. THE GIVEN ROWS OF THIS SEAT. 5 by the template 'for every input the law returns true; each argument reads behind the call as it read before'; 0 by the template 'total and deterministic' (their statements: YtnfehccnofhmnaaTotals.lean).
  GIVEN WITH THE SEED: the statements are not yours to turn. If you find one false, say at which input.
  Laid BY PROGRAM, IN A SANDBOX (cutbox-rows.mjs): the forced cells as the released guide's own fill.sh prints them over the translation d78ced4a272e07a7… (all of the seat's roots in one cut). By AI agents, Wed Nov 11 2026. No macro, syntax, notation, axiom, sorry.
-/
import Derived.Test.YtnfehccnofhmnaaChecked
import GoSem.Claim
import GoSem.ClaimJoined
import GoSem.ClaimMapViews
import Derived.JoinedTies
import Derived.KernelRfl
namespace Go.Proofs.Ytnfehccnofhmnaa
/- THE CELL 'sum', in the pinned program and in every row, IS THE sha256 OF THE DUMP (.gsa) THAT YtnfehccnofhmnaaProg.lean LOADS. Nothing in Lean hashes anything: it is a label: what it is worth is what the hold of that sum in a sandbox is worth. -/
noncomputable def Try.pinned : Pinned := { name := "ytnfehccnofhmnaa", sum := "d78ced4a272e07a776fde23d9cf38b13f52c0e636d1e12d5af47454f0344b392", checked := Try.checked }
namespace Rows
def none {H : Type} : Left H := { results := [], args := [] }

/-- 'escrowlaw16.OriginSteps': WHATEVER THE INPUT: true; the input reads as it did. -/
def originStepsSpec : ChangeSpec := { name := "originSteps", fn := fun _ => fun
  | [d1, d2] => { results := [.lit (.bool true)], args := [d1, d2] }
  | _ => none }
def originStepsRow : OpenClaim := { program := "ytnfehccnofhmnaa", sum := "d78ced4a272e07a776fde23d9cf38b13f52c0e636d1e12d5af47454f0344b392", func := "escrow/escrowlaw16.OriginSteps", spec := "originSteps", apart := false }
def OriginStepsSaid : Prop := originStepsRow.holds Try.pinned (OpenSpec.ofChange originStepsSpec)

/-- ITS FALSE NEIGHBOUR: 'it returns false'. Refute it at one input. -/
def originStepsWrong : ChangeSpec := { name := "originSteps", fn := fun _ => fun
  | [d1, d2] => { results := [.lit (.bool false)], args := [d1, d2] }
  | _ => none }
def OriginStepsWrongFalsely : Prop := originStepsRow.holds Try.pinned (OpenSpec.ofChange originStepsWrong)

/-- 'escrowlaw16.OriginFinal': WHATEVER THE INPUT: true; the input reads as it did. -/
def originFinalSpec : ChangeSpec := { name := "originFinal", fn := fun _ => fun
  | [d1, d2] => { results := [.lit (.bool true)], args := [d1, d2] }
  | _ => none }
def originFinalRow : OpenClaim := { program := "ytnfehccnofhmnaa", sum := "d78ced4a272e07a776fde23d9cf38b13f52c0e636d1e12d5af47454f0344b392", func := "escrow/escrowlaw16.OriginFinal", spec := "originFinal", apart := false }
def OriginFinalSaid : Prop := originFinalRow.holds Try.pinned (OpenSpec.ofChange originFinalSpec)

/-- ITS FALSE NEIGHBOUR: 'it returns false'. Refute it at one input. -/
def originFinalWrong : ChangeSpec := { name := "originFinal", fn := fun _ => fun
  | [d1, d2] => { results := [.lit (.bool false)], args := [d1, d2] }
  | _ => none }
def OriginFinalWrongFalsely : Prop := originFinalRow.holds Try.pinned (OpenSpec.ofChange originFinalWrong)

/-- 'escrowlaw16.OriginGood': WHATEVER THE INPUT: true; the input reads as it did. -/
def originGoodSpec : ChangeSpec := { name := "originGood", fn := fun _ => fun
  | [d1, d2] => { results := [.lit (.bool true)], args := [d1, d2] }
  | _ => none }
def originGoodRow : OpenClaim := { program := "ytnfehccnofhmnaa", sum := "d78ced4a272e07a776fde23d9cf38b13f52c0e636d1e12d5af47454f0344b392", func := "escrow/escrowlaw16.OriginGood", spec := "originGood", apart := false }
def OriginGoodSaid : Prop := originGoodRow.holds Try.pinned (OpenSpec.ofChange originGoodSpec)

/-- ITS FALSE NEIGHBOUR: 'it returns false'. Refute it at one input. -/
def originGoodWrong : ChangeSpec := { name := "originGood", fn := fun _ => fun
  | [d1, d2] => { results := [.lit (.bool false)], args := [d1, d2] }
  | _ => none }
def OriginGoodWrongFalsely : Prop := originGoodRow.holds Try.pinned (OpenSpec.ofChange originGoodWrong)

/-- 'escrowlaw16.OriginRuns': WHATEVER THE INPUT: true; the input reads as it did. -/
def originRunsSpec : ChangeSpec := { name := "originRuns", fn := fun _ => fun
  | [d1, d2] => { results := [.lit (.bool true)], args := [d1, d2] }
  | _ => none }
def originRunsRow : OpenClaim := { program := "ytnfehccnofhmnaa", sum := "d78ced4a272e07a776fde23d9cf38b13f52c0e636d1e12d5af47454f0344b392", func := "escrow/escrowlaw16.OriginRuns", spec := "originRuns", apart := false }
def OriginRunsSaid : Prop := originRunsRow.holds Try.pinned (OpenSpec.ofChange originRunsSpec)

/-- ITS FALSE NEIGHBOUR: 'it returns false'. Refute it at one input. -/
def originRunsWrong : ChangeSpec := { name := "originRuns", fn := fun _ => fun
  | [d1, d2] => { results := [.lit (.bool false)], args := [d1, d2] }
  | _ => none }
def OriginRunsWrongFalsely : Prop := originRunsRow.holds Try.pinned (OpenSpec.ofChange originRunsWrong)

/-- 'escrowlaw16.OriginNext': WHATEVER THE INPUT: true; the input reads as it did. -/
def originNextSpec : ChangeSpec := { name := "originNext", fn := fun _ => fun
  | [d1, d2, d3] => { results := [.lit (.bool true)], args := [d1, d2, d3] }
  | _ => none }
def originNextRow : OpenClaim := { program := "ytnfehccnofhmnaa", sum := "d78ced4a272e07a776fde23d9cf38b13f52c0e636d1e12d5af47454f0344b392", func := "escrow/escrowlaw16.OriginNext", spec := "originNext", apart := false }
def OriginNextSaid : Prop := originNextRow.holds Try.pinned (OpenSpec.ofChange originNextSpec)

/-- ITS FALSE NEIGHBOUR: 'it returns false'. Refute it at one input. -/
def originNextWrong : ChangeSpec := { name := "originNext", fn := fun _ => fun
  | [d1, d2, d3] => { results := [.lit (.bool false)], args := [d1, d2, d3] }
  | _ => none }
def OriginNextWrongFalsely : Prop := originNextRow.holds Try.pinned (OpenSpec.ofChange originNextWrong)

/- THE SECOND FORM. 'bulk': how many values and letters a reading holds, each counted each time it is reached (what is shared counts as often as it is met; a slice's spare places count too). A statement '..UptoSaid' is the law's where the arguments, and the package variables that the reading takes, are together of bulk at most 1048576: NARROWER than '..Said'. Prove '..Said' where nothing that the law and all that it calls make is longer than what came in: it says more and counts as full. Else prove '..UptoSaid'. A law counts once. -/
mutual
def uptoBulk {H : Type} : DataW H → Nat
  | .lit (.string bytes) => bytes.length + 1
  | .lit _ => 1
  | .nil => 1
  | .ptr d => uptoBulk d + 1
  | .slice elems spare => uptoBulkAll elems + uptoBulkAll spare + 1
  | .agg parts => uptoBulkAll parts + 1
  | .iface _ d => uptoBulk d + 1
  | .map entries => uptoBulkEntries entries + 1
  | .held _ => 1
def uptoBulkAll {H : Type} : List (DataW H) → Nat
  | [] => 0
  | d :: r => uptoBulk d + uptoBulkAll r
def uptoBulkEntries {H : Type} : List (Lit × DataW H) → Nat
  | [] => 0
  | x :: r => uptoBulkEntry x + uptoBulkEntries r
def uptoBulkEntry {H : Type} : Lit × DataW H → Nat
  | (.string bytes, d) => bytes.length + uptoBulk d + 1
  | (_, d) => uptoBulk d + 1
 end
def uptoSmall : (H : Type) → List (DataW H) → Bool := fun _ ds => decide (uptoBulkAll ds ≤ 1048576)
def OpenSpec.upto (s : _root_.Go.ChangeSpec) : _root_.Go.OpenSpec := { _root_.Go.OpenSpec.ofChange s with cond := some uptoSmall }

/-- 'escrowlaw16.OriginSteps', WHERE WHAT IT READS IS OF BULK AT MOST 1048576: true; the input reads as it did. -/
def originStepsUptoRow : OpenClaim := { program := "ytnfehccnofhmnaa", sum := "d78ced4a272e07a776fde23d9cf38b13f52c0e636d1e12d5af47454f0344b392", func := "escrow/escrowlaw16.OriginSteps", spec := "originSteps", apart := false, narrowed := true }
def OriginStepsUptoSaid : Prop := originStepsUptoRow.holds Try.pinned (OpenSpec.upto originStepsSpec)

/-- 'escrowlaw16.OriginFinal', WHERE WHAT IT READS IS OF BULK AT MOST 1048576: true; the input reads as it did. -/
def originFinalUptoRow : OpenClaim := { program := "ytnfehccnofhmnaa", sum := "d78ced4a272e07a776fde23d9cf38b13f52c0e636d1e12d5af47454f0344b392", func := "escrow/escrowlaw16.OriginFinal", spec := "originFinal", apart := false, narrowed := true }
def OriginFinalUptoSaid : Prop := originFinalUptoRow.holds Try.pinned (OpenSpec.upto originFinalSpec)

/-- 'escrowlaw16.OriginGood', WHERE WHAT IT READS IS OF BULK AT MOST 1048576: true; the input reads as it did. -/
def originGoodUptoRow : OpenClaim := { program := "ytnfehccnofhmnaa", sum := "d78ced4a272e07a776fde23d9cf38b13f52c0e636d1e12d5af47454f0344b392", func := "escrow/escrowlaw16.OriginGood", spec := "originGood", apart := false, narrowed := true }
def OriginGoodUptoSaid : Prop := originGoodUptoRow.holds Try.pinned (OpenSpec.upto originGoodSpec)

/-- 'escrowlaw16.OriginRuns', WHERE WHAT IT READS IS OF BULK AT MOST 1048576: true; the input reads as it did. -/
def originRunsUptoRow : OpenClaim := { program := "ytnfehccnofhmnaa", sum := "d78ced4a272e07a776fde23d9cf38b13f52c0e636d1e12d5af47454f0344b392", func := "escrow/escrowlaw16.OriginRuns", spec := "originRuns", apart := false, narrowed := true }
def OriginRunsUptoSaid : Prop := originRunsUptoRow.holds Try.pinned (OpenSpec.upto originRunsSpec)

/-- 'escrowlaw16.OriginNext', WHERE WHAT IT READS IS OF BULK AT MOST 1048576: true; the input reads as it did. -/
def originNextUptoRow : OpenClaim := { program := "ytnfehccnofhmnaa", sum := "d78ced4a272e07a776fde23d9cf38b13f52c0e636d1e12d5af47454f0344b392", func := "escrow/escrowlaw16.OriginNext", spec := "originNext", apart := false, narrowed := true }
def OriginNextUptoSaid : Prop := originNextUptoRow.holds Try.pinned (OpenSpec.upto originNextSpec)

end Rows
end Go.Proofs.Ytnfehccnofhmnaa
