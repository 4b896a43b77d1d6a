/- The closed facts of the law's row. -/
import Derived.Test.YtlkhkalniekaoaaGreatDoorRows
import Derived.JoinedOf
import Derived.ProofKit

set_option linter.unusedVariables false
set_option linter.unusedSimpArgs false

section
/- The closed facts of the law's row. -/
namespace Go.Proofs.YtlkhkalniekaoaaGreatDoor
open Go
set_option maxHeartbeats 8000000 in
set_option maxRecDepth 100000 in
theorem closed : joinedFacts Tryz.prog 4 Tryz.f4 Rows.scriptSpoiltSpec Rows.scriptSpoiltUptoRow = true := by
  simp only [joinedFacts, Bool.and_eq_true]
  repeat' apply And.intro
  all_goals (as_aux_lemma => kernel_rfl)
end Go.Proofs.YtlkhkalniekaoaaGreatDoor
end
