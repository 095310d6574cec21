/-
  Any script of any configuration and track is admitted just if the document says so; else the first rule that does not hold is told: 'odographlaw28.AdmitChecks' returns true, whatever the input; the input reads as it did.
  Conditions: none.
-/
import Derived.Test.YtnnjmbblpmghfaaGreatRows
import Derived.Test.YtnnjmbblpmghfaaGreatF4
import Derived.Test.YtnnjmbblpmghfaaGreatJk
import Derived.Test.YtnnjmbblpmghfaaGreatPc
import Derived.ProofKit
set_option linter.unusedSimpArgs false
set_option linter.unusedVariables false
namespace Go.Proofs.YtnnjmbblpmghfaaGreat
open Go.ChangeShapes Go.WideShapes Go.ChangeAt Go.RowKit Go.Ab

set_option maxHeartbeats 1600000 in
set_option maxRecDepth 100000 in
theorem admitChecks_lifted (os : Os) (started : os.Started) (H : Type) (enc : TypeId × Value → H) :
    ReturnsInHanded {} Tryz.checked os 4 .any (Rows.admitChecksSpec.pre6 enc Tryz.prog Tryz.f4 Rows.admitChecksRow.domain false) (Rows.admitChecksSpec.post enc Tryz.prog Tryz.f4 false true false false) := by
  refine returnsInHanded_of_change (C := Tryz.checked) ownK started (by kernel_rfl) Tryz.func4
    (ChangeSpec.witness6 (enc := enc) (C := Tryz.checked) false ⟨#[], #[.agg #[.int .i64 0, .int .i64 0, .int .i64 0, .int .i64 0, .int .i64 0, .int .i64 0, .int .i64 0, .int .i64 0, .int .i64 0, .int .i64 0, .int .i64 0, .int .i64 0, .int .i64 0, .int .i64 0], .agg #[.slice none 0 0, .slice none 0 0], .agg #[.slice none 0 0, .int .i64 0, .int .i64 0, .int .i64 0, .int .i64 0, .int .i64 0, .int .i64 0, .slice none 0 0, .slice none 0 0]], []⟩ 4 (by kernel_rfl) (by kernel_rfl) (by kernel_rfl) (by kernel_rfl)) ?_
  intro W base args ds gs before hval0 hW hcnd _
  have hval : ∀ (j : Nat) t v, Tryz.f4.params[j]? = some t → args[j]? = some v → Value.okWide Tryz.prog W .any base t v := hval0
  have hW' := hW
  obtain ⟨p, q, hA0, hV, rfl, hfz, hnd⟩ := hW
  have hA : DataW.TrodAll enc Tryz.prog W 0 (fun _ => true) true Tryz.f4.params.toList args.toList ds p := hA0
  rw [Tryz.params4] at hA hval
  obtain ⟨v0, v1, v2, d0, d1, d2, p0, p1, p2, rfl, rfl, rfl, h0, h1, h2⟩ := trodAll_three hA
  obtain ⟨rfl, rfl⟩ := trodVars_none hV
  have k0 := h0
  have k1 := h1
  have k2 := h2
  obtain ⟨cs0, rfl, _⟩ := okWide_struct Tryz.underlying23 (hval 0 23 v0 rfl rfl)
  obtain ⟨cs1, rfl, _⟩ := okWide_struct Tryz.underlying27 (hval 1 27 v1 rfl rfl)
  obtain ⟨cs2, rfl, _⟩ := okWide_struct Tryz.underlying38 (hval 2 38 v2 rfl rfl)
  obtain ⟨f0, hf0⟩ := h0
  obtain ⟨f1, hf1⟩ := h1
  obtain ⟨f2, hf2⟩ := h2
  obtain ⟨x0, t0, r0⟩ := trod_rep 8 f0 23 cs0.toList (d0, p0) (by kernel_rfl) hf0
  obtain ⟨x1, t1, r1⟩ := trod_rep 8 f1 27 cs1.toList (d1, p1) (by kernel_rfl) hf1
  obtain ⟨x2, t2, r2⟩ := trod_rep 8 f2 38 cs2.toList (d2, p2) (by kernel_rfl) hf2
  obtain ⟨c, rfl⟩ := ty_Config22 (Tryz.underlying23.trans Tryz.underlying22.symm) t0
  obtain ⟨t, rfl, hz⟩ := ty_Track26 (Tryz.underlying27.trans Tryz.underlying26.symm) t1
  obtain ⟨s, rfl, hs, hb⟩ := ty_Script37 (Tryz.underlying38.trans Tryz.underlying37.symm) t2
  clear hA0 hval0 hA hV hf0 hf1 hf2
  simp only [List.append_nil] at hW'
  have hlt : ∀ x ∈ p0 ++ (p1 ++ p2), x.block < W.heap.size := fun x hx => by simpa using hW'.lt x (by simpa using hx)
  have hcall := callL_sound tab_ok ext0_ok ext0_body (c4 (ext := ext0) (H := []) c t s hz hs (law4 c t s hb))
  have hgo := hcall (gh0 W) W [.agg cs0, .agg cs1, .agg cs2] none (hinv0 W) (argsRep0 (.cons (rep_agg r0) (.cons (rep_agg r1) (.cons (rep_agg r2) .nil))) (by
    intro v hv
    simp only [List.mem_cons, List.not_mem_nil, or_false] at hv
    rcases hv with rfl | rfl | rfl <;> trivial))
  refine hgo.mono fun e W' ⟨v, g', R, he, hr, _, _, hpost⟩ => ?_
  subst he
  have hB := below_of hpost
  have hv : v = .bool true := by
    have : RepD g'.M (.b true) v := hr
    cases this; rfl
  subst hv
  refine ⟨_, rfl, _, _, _, [], p0 ++ (p1 ++ p2), [], hW', trodAll_mk1 (shut_bool Tryz.underlying4 _), ?_, rfl, hB.frame _, fun h => by cases h⟩
  exact trodAll_mk3
    (Below.trod laidOutK (by kernel_rfl) (of_decide_eq_true (by kernel_rfl)) k0 hB (fun x hx => hlt x (by simp [hx])))
    (Below.trod laidOutK (by kernel_rfl) (of_decide_eq_true (by kernel_rfl)) k1 hB (fun x hx => hlt x (by simp [hx])))
    (Below.trod laidOutK (by kernel_rfl) (of_decide_eq_true (by kernel_rfl)) k2 hB (fun x hx => hlt x (by simp [hx])))

theorem inst4 : Tryz.f4.isInstance Tryz.prog Rows.admitChecksRow.origin Rows.admitChecksRow.targs := of_decide_eq_true (by kernel_rfl)
theorem wrap4 : Tryz.f4.isWrapper Tryz.prog Rows.admitChecksRow.wrapper Rows.admitChecksRow.mainSum := by
  unfold Func.isWrapper
  first | (rw [if_pos (by decide +kernel)]; kernel_rfl) | (rw [if_neg (by decide +kernel)]; exact ⟨rfl, rfl⟩)
theorem admitChecks_holds : Rows.AdmitChecksSaid :=
  OpenClaim.holds_of_wide 4 Tryz.f4 rfl rfl rfl rfl rfl rfl rfl ⟨rfl, rfl, rfl, rfl, rfl⟩ rfl rfl rfl rfl rfl named4 Tryz.func4 closed4 inst4 wrap4
    (fun os started H enc _ => admitChecks_lifted os started H enc)
#print axioms admitChecks_holds
end Go.Proofs.YtnnjmbblpmghfaaGreat
