/-
  The closed facts of AdmitTrue's row, one by one.
  Conditions: none.
-/
import Derived.Test.YtnnjmbblpmghfaaGreatRows
import Derived.JoinedOf
import Derived.KernelRfl
namespace Go.Proofs.YtnnjmbblpmghfaaGreat
set_option maxHeartbeats 40000000 in
theorem closed8 : joinedFacts Tryz.prog 8 Tryz.f8 Rows.admitTrueSpec Rows.admitTrueRow = true := by
  unfold joinedFacts
  repeat' (with_reducible refine Bool.and_eq_true_iff.2 ⟨?_, ?_⟩)
  all_goals (as_aux_lemma => kernel_rfl)
theorem named8 : Tryz.prog.funcNamed Rows.admitTrueRow.func = some 8 := by kernel_rfl
end Go.Proofs.YtnnjmbblpmghfaaGreat
