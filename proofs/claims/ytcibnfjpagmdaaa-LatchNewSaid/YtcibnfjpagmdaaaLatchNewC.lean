/- LatchNew: the code that the row reaches is closed: a check by the kernel. -/
import Derived.Test.YtcibnfjpagmdaaaRows
import Derived.Test.YtcibnfjpagmdaaaPost
import Derived.WalkKit
import Derived.ProofKit
import Derived.Conc.HoldsTime
namespace Go.Proofs.Ytcibnfjpagmdaaa.latchNew
open Go.ChangeShapes Go.WideShapes Go.ChangeAt Go.RowKit Go.Conc Go.ConcM

set_option maxRecDepth 100000 in
theorem named : Try.pinned.checked.prog.funcNamed Rows.latchNewRow.func = some 16 := by kernel_rfl
set_option maxRecDepth 100000 in
set_option maxHeartbeats 40000000 in
theorem closed : joinedFacts Try.pinned.checked.prog 16 Try.f16 Rows.latchNewSpec Rows.latchNewRow = true := by
  unfold joinedFacts
  repeat' (with_reducible refine Bool.and_eq_true_iff.2 ⟨?_, ?_⟩)
  all_goals (as_aux_lemma => kernel_rfl)
end Go.Proofs.Ytcibnfjpagmdaaa.latchNew
