/-
  The closed facts of MakeAdmits's row, one by one.
  Conditions: none.
-/
import Derived.Test.YtnnjmbblpmghfaaGreatRows
import Derived.JoinedOf
import Derived.KernelRfl
namespace Go.Proofs.YtnnjmbblpmghfaaGreat
set_option maxHeartbeats 40000000 in
theorem closed3 : joinedFacts Tryz.prog 3 Tryz.f3 Rows.makeAdmitsSpec Rows.makeAdmitsRow = true := by
  unfold joinedFacts
  repeat' (with_reducible refine Bool.and_eq_true_iff.2 ⟨?_, ?_⟩)
  all_goals (as_aux_lemma => kernel_rfl)
theorem named3 : Tryz.prog.funcNamed Rows.makeAdmitsRow.func = some 3 := by kernel_rfl
end Go.Proofs.YtnnjmbblpmghfaaGreat
