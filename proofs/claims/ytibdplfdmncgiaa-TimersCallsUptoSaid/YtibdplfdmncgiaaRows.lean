/-
  No cell of these rows narrows 'for every input' (looked for: loops, veiled, ifaces, maps, wideKeys, modest, calm, conditions, laid).
  DERIVED. THE GIVEN ROWS OF THIS SEAT. 5 by the template 'for every input the law returns true; each argument reads behind the call as it read before'; 0 by the template 'total and deterministic' (their statements: YtibdplfdmncgiaaTotals.lean).
  GIVEN WITH THE SEED: the statements are not yours to turn. If you find one false, say at which input.
  Laid BY PROGRAM, IN A SANDBOX (cutbox-rows.mjs): the forced cells as the released guide's own fill.sh prints them over the translation e621353e6e35d387… (all of the seat's roots in one cut). By AI agents, Wed Nov 11 2026. No macro, syntax, notation, axiom, sorry.
-/
import Derived.Test.YtibdplfdmncgiaaChecked
import GoSem.Claim
import GoSem.ClaimJoined
import GoSem.ClaimMapViews
import Derived.JoinedTies
import Derived.KernelRfl
namespace Go.Proofs.Ytibdplfdmncgiaa
/- THE CELL 'sum', in the pinned program and in every row, IS THE sha256 OF THE DUMP (.gsa) THAT YtibdplfdmncgiaaProg.lean LOADS. Nothing in Lean hashes anything: it is a label: what it is worth is what the hold of that sum in a sandbox is worth. -/
noncomputable def Try.pinned : Pinned := { name := "ytibdplfdmncgiaa", sum := "e621353e6e35d3878cd3e594ed3b8fc5a5c1f55fa4a7d817b1c98f406826febd", checked := Try.checked }
namespace Rows
def none {H : Type} : Left H := { results := [], args := [] }

/-- 'escrowlaw14.TimersPortions': WHATEVER THE INPUT: true; the input reads as it did. -/
def timersPortionsSpec : ChangeSpec := { name := "timersPortions", fn := fun _ => fun
  | [d1, d2] => { results := [.lit (.bool true)], args := [d1, d2] }
  | _ => none }
def timersPortionsRow : OpenClaim := { program := "ytibdplfdmncgiaa", sum := "e621353e6e35d3878cd3e594ed3b8fc5a5c1f55fa4a7d817b1c98f406826febd", func := "escrow/escrowlaw14.TimersPortions", spec := "timersPortions", unfollowed := true, recurses := true, apart := false }
def TimersPortionsSaid : Prop := timersPortionsRow.holds Try.pinned (OpenSpec.ofChange timersPortionsSpec)

/-- ITS FALSE NEIGHBOUR: 'it returns false'. Refute it at one input. -/
def timersPortionsWrong : ChangeSpec := { name := "timersPortions", fn := fun _ => fun
  | [d1, d2] => { results := [.lit (.bool false)], args := [d1, d2] }
  | _ => none }
def TimersPortionsWrongFalsely : Prop := timersPortionsRow.holds Try.pinned (OpenSpec.ofChange timersPortionsWrong)

/-- 'escrowlaw14.TimersFull': WHATEVER THE INPUT: true; the input reads as it did. -/
def timersFullSpec : ChangeSpec := { name := "timersFull", fn := fun _ => fun
  | [d] => { results := [.lit (.bool true)], args := [d] }
  | _ => none }
def timersFullRow : OpenClaim := { program := "ytibdplfdmncgiaa", sum := "e621353e6e35d3878cd3e594ed3b8fc5a5c1f55fa4a7d817b1c98f406826febd", func := "escrow/escrowlaw14.TimersFull", spec := "timersFull", unfollowed := true, recurses := true, apart := false }
def TimersFullSaid : Prop := timersFullRow.holds Try.pinned (OpenSpec.ofChange timersFullSpec)

/-- ITS FALSE NEIGHBOUR: 'it returns false'. Refute it at one input. -/
def timersFullWrong : ChangeSpec := { name := "timersFull", fn := fun _ => fun
  | [d] => { results := [.lit (.bool false)], args := [d] }
  | _ => none }
def TimersFullWrongFalsely : Prop := timersFullRow.holds Try.pinned (OpenSpec.ofChange timersFullWrong)

/-- 'escrowlaw14.TimersNext': WHATEVER THE INPUT: true; the input reads as it did. -/
def timersNextSpec : ChangeSpec := { name := "timersNext", fn := fun _ => fun
  | [d1, d2] => { results := [.lit (.bool true)], args := [d1, d2] }
  | _ => none }
def timersNextRow : OpenClaim := { program := "ytibdplfdmncgiaa", sum := "e621353e6e35d3878cd3e594ed3b8fc5a5c1f55fa4a7d817b1c98f406826febd", func := "escrow/escrowlaw14.TimersNext", spec := "timersNext", unfollowed := true, recurses := true, apart := false }
def TimersNextSaid : Prop := timersNextRow.holds Try.pinned (OpenSpec.ofChange timersNextSpec)

/-- ITS FALSE NEIGHBOUR: 'it returns false'. Refute it at one input. -/
def timersNextWrong : ChangeSpec := { name := "timersNext", fn := fun _ => fun
  | [d1, d2] => { results := [.lit (.bool false)], args := [d1, d2] }
  | _ => none }
def TimersNextWrongFalsely : Prop := timersNextRow.holds Try.pinned (OpenSpec.ofChange timersNextWrong)

/-- 'escrowlaw14.TimersPlays': WHATEVER THE INPUT: true; the input reads as it did. -/
def timersPlaysSpec : ChangeSpec := { name := "timersPlays", fn := fun _ => fun
  | [d] => { results := [.lit (.bool true)], args := [d] }
  | _ => none }
def timersPlaysRow : OpenClaim := { program := "ytibdplfdmncgiaa", sum := "e621353e6e35d3878cd3e594ed3b8fc5a5c1f55fa4a7d817b1c98f406826febd", func := "escrow/escrowlaw14.TimersPlays", spec := "timersPlays", unfollowed := true, recurses := true, apart := false }
def TimersPlaysSaid : Prop := timersPlaysRow.holds Try.pinned (OpenSpec.ofChange timersPlaysSpec)

/-- ITS FALSE NEIGHBOUR: 'it returns false'. Refute it at one input. -/
def timersPlaysWrong : ChangeSpec := { name := "timersPlays", fn := fun _ => fun
  | [d] => { results := [.lit (.bool false)], args := [d] }
  | _ => none }
def TimersPlaysWrongFalsely : Prop := timersPlaysRow.holds Try.pinned (OpenSpec.ofChange timersPlaysWrong)

/-- 'escrowlaw14.TimersCalls': WHATEVER THE INPUT: true; the input reads as it did. -/
def timersCallsSpec : ChangeSpec := { name := "timersCalls", fn := fun _ => fun
  | [d1, d2, d3] => { results := [.lit (.bool true)], args := [d1, d2, d3] }
  | _ => none }
def timersCallsRow : OpenClaim := { program := "ytibdplfdmncgiaa", sum := "e621353e6e35d3878cd3e594ed3b8fc5a5c1f55fa4a7d817b1c98f406826febd", func := "escrow/escrowlaw14.TimersCalls", spec := "timersCalls", unfollowed := true, recurses := true, apart := false }
def TimersCallsSaid : Prop := timersCallsRow.holds Try.pinned (OpenSpec.ofChange timersCallsSpec)

/-- ITS FALSE NEIGHBOUR: 'it returns false'. Refute it at one input. -/
def timersCallsWrong : ChangeSpec := { name := "timersCalls", fn := fun _ => fun
  | [d1, d2, d3] => { results := [.lit (.bool false)], args := [d1, d2, d3] }
  | _ => none }
def TimersCallsWrongFalsely : Prop := timersCallsRow.holds Try.pinned (OpenSpec.ofChange timersCallsWrong)

/- THE SECOND FORM. 'bulk': how many values and letters a reading holds, each counted each time it is reached (what is shared counts as often as it is met; a slice's spare places count too). A statement '..UptoSaid' is the law's where the arguments, and the package variables that the reading takes, are together of bulk at most 1048576: NARROWER than '..Said'. Prove '..Said' where nothing that the law and all that it calls make is longer than what came in: it says more and counts as full. Else prove '..UptoSaid'. A law counts once. -/
mutual
def uptoBulk {H : Type} : DataW H → Nat
  | .lit (.string bytes) => bytes.length + 1
  | .lit _ => 1
  | .nil => 1
  | .ptr d => uptoBulk d + 1
  | .slice elems spare => uptoBulkAll elems + uptoBulkAll spare + 1
  | .agg parts => uptoBulkAll parts + 1
  | .iface _ d => uptoBulk d + 1
  | .map entries => uptoBulkEntries entries + 1
  | .held _ => 1
def uptoBulkAll {H : Type} : List (DataW H) → Nat
  | [] => 0
  | d :: r => uptoBulk d + uptoBulkAll r
def uptoBulkEntries {H : Type} : List (Lit × DataW H) → Nat
  | [] => 0
  | x :: r => uptoBulkEntry x + uptoBulkEntries r
def uptoBulkEntry {H : Type} : Lit × DataW H → Nat
  | (.string bytes, d) => bytes.length + uptoBulk d + 1
  | (_, d) => uptoBulk d + 1
 end
def uptoSmall : (H : Type) → List (DataW H) → Bool := fun _ ds => decide (uptoBulkAll ds ≤ 1048576)
def OpenSpec.upto (s : _root_.Go.ChangeSpec) : _root_.Go.OpenSpec := { _root_.Go.OpenSpec.ofChange s with cond := some uptoSmall }

/-- 'escrowlaw14.TimersPortions', WHERE WHAT IT READS IS OF BULK AT MOST 1048576: true; the input reads as it did. -/
def timersPortionsUptoRow : OpenClaim := { program := "ytibdplfdmncgiaa", sum := "e621353e6e35d3878cd3e594ed3b8fc5a5c1f55fa4a7d817b1c98f406826febd", func := "escrow/escrowlaw14.TimersPortions", spec := "timersPortions", unfollowed := true, recurses := true, apart := false, narrowed := true }
def TimersPortionsUptoSaid : Prop := timersPortionsUptoRow.holds Try.pinned (OpenSpec.upto timersPortionsSpec)

/-- 'escrowlaw14.TimersFull', WHERE WHAT IT READS IS OF BULK AT MOST 1048576: true; the input reads as it did. -/
def timersFullUptoRow : OpenClaim := { program := "ytibdplfdmncgiaa", sum := "e621353e6e35d3878cd3e594ed3b8fc5a5c1f55fa4a7d817b1c98f406826febd", func := "escrow/escrowlaw14.TimersFull", spec := "timersFull", unfollowed := true, recurses := true, apart := false, narrowed := true }
def TimersFullUptoSaid : Prop := timersFullUptoRow.holds Try.pinned (OpenSpec.upto timersFullSpec)

/-- 'escrowlaw14.TimersNext', WHERE WHAT IT READS IS OF BULK AT MOST 1048576: true; the input reads as it did. -/
def timersNextUptoRow : OpenClaim := { program := "ytibdplfdmncgiaa", sum := "e621353e6e35d3878cd3e594ed3b8fc5a5c1f55fa4a7d817b1c98f406826febd", func := "escrow/escrowlaw14.TimersNext", spec := "timersNext", unfollowed := true, recurses := true, apart := false, narrowed := true }
def TimersNextUptoSaid : Prop := timersNextUptoRow.holds Try.pinned (OpenSpec.upto timersNextSpec)

/-- 'escrowlaw14.TimersPlays', WHERE WHAT IT READS IS OF BULK AT MOST 1048576: true; the input reads as it did. -/
def timersPlaysUptoRow : OpenClaim := { program := "ytibdplfdmncgiaa", sum := "e621353e6e35d3878cd3e594ed3b8fc5a5c1f55fa4a7d817b1c98f406826febd", func := "escrow/escrowlaw14.TimersPlays", spec := "timersPlays", unfollowed := true, recurses := true, apart := false, narrowed := true }
def TimersPlaysUptoSaid : Prop := timersPlaysUptoRow.holds Try.pinned (OpenSpec.upto timersPlaysSpec)

/-- 'escrowlaw14.TimersCalls', WHERE WHAT IT READS IS OF BULK AT MOST 1048576: true; the input reads as it did. -/
def timersCallsUptoRow : OpenClaim := { program := "ytibdplfdmncgiaa", sum := "e621353e6e35d3878cd3e594ed3b8fc5a5c1f55fa4a7d817b1c98f406826febd", func := "escrow/escrowlaw14.TimersCalls", spec := "timersCalls", unfollowed := true, recurses := true, apart := false, narrowed := true }
def TimersCallsUptoSaid : Prop := timersCallsUptoRow.holds Try.pinned (OpenSpec.upto timersCallsSpec)

end Rows
end Go.Proofs.Ytibdplfdmncgiaa
