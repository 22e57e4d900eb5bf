/-
  The law OriginNext on symbols, from behind the call of Run: a good state of one kind. No condition.
-/
import Derived.Test.YtnfehccnofhmnaaMN9
set_option linter.all false
namespace Go.Proofs.Ytnfehccnofhmnaa
open Go.RowKit
namespace E
set_option maxRecDepth 1000000 in
theorem tail_4 : tailOk (stN 4) = true := by kernel_rfl
end E
end Go.Proofs.Ytnfehccnofhmnaa
