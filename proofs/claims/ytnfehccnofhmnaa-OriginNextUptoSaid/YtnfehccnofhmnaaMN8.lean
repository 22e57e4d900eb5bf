/-
  The law OriginNext on symbols, from behind the call of Run: a good state of each kind. No condition.
-/
import Derived.Test.YtnfehccnofhmnaaMN7
set_option linter.all false
namespace Go.Proofs.Ytnfehccnofhmnaa
open Go.RowKit
namespace E

noncomputable def tlN : Code := dropSeq 3 (Try.f7.body.getD .skip)
def evN : List C := [sI .i64 100, sI .u64 101, sS 102, sI .i64 103, sI .i64 104, sI .u64 105, sS 106, sB 107]
def zN : List C := [.lit (.int .i64 0), .lit (.int .i64 0), .lit (.int .u64 0), .lit (.string ⟨#[]⟩), .lit (.bool false)]
def stN0 : List C := [.lit (.int .i64 0), sI .u64 1, .lit (.string ⟨#[]⟩), .lit (.int .i64 0)] ++ zN
def stN (p : Int) : List C := [.lit (.int .i64 0), sI .u64 1, sS 2, .lit (.int .i64 p)] ++ zN
def stN6 (k f : Int) : List C := [.lit (.int .i64 0), sI .u64 1, sS 2, .lit (.int .i64 6), .lit (.int .i64 k), .lit (.int .i64 f), sI .u64 1, sS 2, .lit (.bool false)]
def sgN (st : List C) : St := ⟨[(5, .one (.lp 5 0)), (7, .one (.lp 7 0))], [(5, evN), (7, st)], ⟨0, []⟩⟩
def kN : Know := [⟨true, .int .i64 64, .iface 2 (.iface 1 (.int .i64 2)), false⟩]

noncomputable def tailOk (st : List C) : Bool := allRet X1 Try.f7.results.toList (runCS Try.prog X1 fi7 (callS Try.prog X1 FT (ovOf 9) (gLiveS 9) 100 100) [] 100 tlN (sgN st) kN)

theorem tlN_ok : codeOk [] tlN = true := by kernel_rfl
theorem tlN_K : codeK tlN = true := by kernel_rfl

set_option maxRecDepth 1000000
theorem tail_0 : tailOk stN0 = true := by kernel_rfl
theorem tail_2 : tailOk (stN 2) = true := by kernel_rfl
theorem tail_7 : tailOk (stN 7) = true := by kernel_rfl
theorem tail_6a : tailOk (stN6 2 1) = true := by kernel_rfl
theorem tail_6b : tailOk (stN6 6 0) = true := by kernel_rfl
end E
end Go.Proofs.Ytnfehccnofhmnaa
