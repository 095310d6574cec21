/-
  The closed facts of AdmitChecks's row, one by one.
  Conditions: none.
-/
import Derived.Test.YtnnjmbblpmghfaaGreatRows
import Derived.JoinedOf
import Derived.KernelRfl
namespace Go.Proofs.YtnnjmbblpmghfaaGreat
set_option maxHeartbeats 40000000 in
theorem closed4 : joinedFacts Tryz.prog 4 Tryz.f4 Rows.admitChecksSpec Rows.admitChecksRow = true := by
  unfold joinedFacts
  repeat' (with_reducible refine Bool.and_eq_true_iff.2 ⟨?_, ?_⟩)
  all_goals (as_aux_lemma => kernel_rfl)
theorem named4 : Tryz.prog.funcNamed Rows.admitChecksRow.func = some 4 := by kernel_rfl
end Go.Proofs.YtnnjmbblpmghfaaGreat
