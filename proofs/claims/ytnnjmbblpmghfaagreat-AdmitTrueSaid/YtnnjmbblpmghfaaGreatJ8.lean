/-
  In each cycle of a script that is admitted the true speed is in what each sensor says that is fit, and isn't wrong: 'odographlaw28.AdmitTrue' returns true, whatever the input; the input reads as it did.
  Conditions: none.
-/
import Derived.Test.YtnnjmbblpmghfaaGreatRows
import Derived.Test.YtnnjmbblpmghfaaGreatF8
import Derived.Test.YtnnjmbblpmghfaaGreatTk
import Derived.Test.YtnnjmbblpmghfaaGreatP2
import Derived.Test.YtnnjmbblpmghfaaGreatQ2
import Derived.ProofKit
set_option linter.unusedSimpArgs false
set_option linter.unusedVariables false
namespace Go.Proofs.YtnnjmbblpmghfaaGreat
open Go.ChangeShapes Go.WideShapes Go.ChangeAt Go.RowKit Go.Ab

theorem own8 : ownKnob Tryz.prog.godebug = none := by kernel_rfl
theorem laidOut8 : laidOutB Tryz.prog = true := by kernel_rfl

/-- The ghost at a call from outside: no box; memory as it lies. -/
def gh0 (W : World) : Gh := ⟨fun _ => none, Wm W, fun _ _ => none⟩
theorem hinv0 (W : World) : HInv (gh0 W) [] W where
  mem := fun b o v h => h
  dom := fun i b h => by cases h
  box := fun i bx b h _ => by simp at h
  liv := fun i bx b h _ => by simp at h
  bnd := fun i bx h => by simp at h
  inj := fun i j b h => by cases h
  owinj := fun i o j p b h => by cases h
  owβ := fun i o j b h => by cases h
  owlt := fun i o b h => by cases h
theorem below_of {W w' : World} {g' : Gh} {R : Option Nat} (h : Ab.Post (gh0 W) W none [] g' w' R []) : Below W.heap.size W w' :=
  ⟨h.same.os, h.same.tape, h.same.output, h.same.size, fun k hk => (h.keep k hk (by
    rintro (⟨i, hi⟩ | ⟨i, o, hi⟩ | hi) <;> cases hi)).1⟩
theorem argsRep0 {W : World} {args : List V} {vs : List Value} (h : All2 (RepV (gh0 W)) args vs) (hn : ∀ v ∈ args, noOwn v) : ArgsRep (gh0 W) W none args vs where
  rep := h
  own := fun v u hv _ => OwnV.of_noOwn (hn v (List.mem_of_getElem? hv))
  no := fun j v hv => hn v (List.mem_of_getElem? hv)
  fresh := fun b h => by cases h
theorem rep_agg {W : World} {xs : List D} {cs : Array Value} (h : All2 (RepD (Wm W)) xs cs.toList) : RepV (gh0 W) (.agg (xs.map .d)) (.agg cs) :=
  ⟨cs.toList, by simp, All2.map_left _ (h.mono fun _ _ _ h => ⟨h, trivial⟩)⟩
def ext0 : Ab.Callee := fun _ _ _ => none
theorem ext0_ok : CalleeOK Tryz.prog ext0 := fun _ _ _ _ _ h => by cases h
theorem ext0_body : BodyOK Tryz.prog ext0 := fun _ _ _ _ _ h => by cases h

set_option maxHeartbeats 1600000 in
set_option maxRecDepth 100000 in
theorem admitTrue_lifted (os : Os) (started : os.Started) (H : Type) (enc : TypeId × Value → H) :
    ReturnsInHanded {} Tryz.checked os 8 .any (Rows.admitTrueSpec.pre6 enc Tryz.prog Tryz.f8 Rows.admitTrueRow.domain false) (Rows.admitTrueSpec.post enc Tryz.prog Tryz.f8 false true false false) := by
  refine returnsInHanded_of_change (C := Tryz.checked) own8 started (by kernel_rfl) Tryz.func8
    (ChangeSpec.witness6 (enc := enc) (C := Tryz.checked) false ⟨#[], #[.agg #[.int .i64 0, .int .i64 0, .int .i64 0, .int .i64 0, .int .i64 0, .int .i64 0, .int .i64 0, .int .i64 0, .int .i64 0, .int .i64 0, .int .i64 0, .int .i64 0, .int .i64 0, .int .i64 0], .agg #[.slice none 0 0, .slice none 0 0], .agg #[.slice none 0 0, .int .i64 0, .int .i64 0, .int .i64 0, .int .i64 0, .int .i64 0, .int .i64 0, .slice none 0 0, .slice none 0 0]], []⟩ 8 (by kernel_rfl) (by kernel_rfl) (by kernel_rfl) (by kernel_rfl)) ?_
  intro W base args ds gs before hval0 hW hcnd _
  have hval : ∀ (j : Nat) t v, Tryz.f8.params[j]? = some t → args[j]? = some v → Value.okWide Tryz.prog W .any base t v := hval0
  have hW' := hW
  obtain ⟨p, q, hA0, hV, rfl, hfz, hnd⟩ := hW
  have hA : DataW.TrodAll enc Tryz.prog W 0 (fun _ => true) true Tryz.f8.params.toList args.toList ds p := hA0
  rw [Tryz.params8] at hA hval
  obtain ⟨v0, v1, v2, d0, d1, d2, p0, p1, p2, rfl, rfl, rfl, h0, h1, h2⟩ := trodAll_three hA
  obtain ⟨rfl, rfl⟩ := trodVars_none hV
  have k0 := h0
  have k1 := h1
  have k2 := h2
  obtain ⟨cs0, rfl, _⟩ := okWide_struct Tryz.underlying23 (hval 0 23 v0 rfl rfl)
  obtain ⟨cs1, rfl, _⟩ := okWide_struct Tryz.underlying27 (hval 1 27 v1 rfl rfl)
  obtain ⟨cs2, rfl, _⟩ := okWide_struct Tryz.underlying38 (hval 2 38 v2 rfl rfl)
  obtain ⟨f0, hf0⟩ := h0
  obtain ⟨f1, hf1⟩ := h1
  obtain ⟨f2, hf2⟩ := h2
  obtain ⟨x0, t0, r0⟩ := trod_rep 8 f0 23 cs0.toList (d0, p0) (by kernel_rfl) hf0
  obtain ⟨x1, t1, r1⟩ := trod_rep 8 f1 27 cs1.toList (d1, p1) (by kernel_rfl) hf1
  obtain ⟨x2, t2, r2⟩ := trod_rep 8 f2 38 cs2.toList (d2, p2) (by kernel_rfl) hf2
  obtain ⟨c, rfl⟩ := ty_Config22 (Tryz.underlying23.trans Tryz.underlying22.symm) t0
  obtain ⟨t, rfl, hz⟩ := ty_Track26 (Tryz.underlying27.trans Tryz.underlying26.symm) t1
  obtain ⟨s, rfl, hs⟩ := ty_Script37 (Tryz.underlying38.trans Tryz.underlying37.symm) t2
  clear hA0 hval0 hA hV hf0 hf1 hf2
  simp only [List.append_nil] at hW'
  have hlt : ∀ x ∈ p0 ++ (p1 ++ p2), x.block < W.heap.size := fun x hx => by simpa using hW'.lt x (by simpa using hx)
  have hcall := callL_sound tab_ok ext0_ok ext0_body (c8 (ext := ext0) (H := []) c t s hz hs (law8 c t s))
  have hgo := hcall (gh0 W) W [.agg cs0, .agg cs1, .agg cs2] none (hinv0 W) (argsRep0 (.cons (rep_agg r0) (.cons (rep_agg r1) (.cons (rep_agg r2) .nil))) (by
    intro v hv
    simp only [List.mem_cons, List.not_mem_nil, or_false] at hv
    rcases hv with rfl | rfl | rfl <;> trivial))
  refine hgo.mono fun e W' ⟨v, g', R, he, hr, _, _, hpost⟩ => ?_
  subst he
  have hB := below_of hpost
  have hv : v = .bool true := by
    have : RepD g'.M (.b true) v := hr
    cases this; rfl
  subst hv
  refine ⟨_, rfl, _, _, _, [], p0 ++ (p1 ++ p2), [], hW', trodAll_mk1 (shut_bool Tryz.underlying4 _), ?_, rfl, hB.frame _, fun h => by cases h⟩
  exact trodAll_mk3
    (Below.trod laidOut8 (by kernel_rfl) (of_decide_eq_true (by kernel_rfl)) k0 hB (fun x hx => hlt x (by simp [hx])))
    (Below.trod laidOut8 (by kernel_rfl) (of_decide_eq_true (by kernel_rfl)) k1 hB (fun x hx => hlt x (by simp [hx])))
    (Below.trod laidOut8 (by kernel_rfl) (of_decide_eq_true (by kernel_rfl)) k2 hB (fun x hx => hlt x (by simp [hx])))

theorem inst8 : Tryz.f8.isInstance Tryz.prog Rows.admitTrueRow.origin Rows.admitTrueRow.targs := of_decide_eq_true (by kernel_rfl)
theorem wrap8 : Tryz.f8.isWrapper Tryz.prog Rows.admitTrueRow.wrapper Rows.admitTrueRow.mainSum := by
  unfold Func.isWrapper
  first | (rw [if_pos (by decide +kernel)]; kernel_rfl) | (rw [if_neg (by decide +kernel)]; exact ⟨rfl, rfl⟩)
theorem admitTrue_holds : Rows.AdmitTrueSaid :=
  OpenClaim.holds_of_wide 8 Tryz.f8 rfl rfl rfl rfl rfl rfl rfl ⟨rfl, rfl, rfl, rfl, rfl⟩ rfl rfl rfl rfl rfl named8 Tryz.func8 closed8 inst8 wrap8
    (fun os started H enc _ => admitTrue_lifted os started H enc)
#print axioms admitTrue_holds
end Go.Proofs.YtnnjmbblpmghfaaGreat
