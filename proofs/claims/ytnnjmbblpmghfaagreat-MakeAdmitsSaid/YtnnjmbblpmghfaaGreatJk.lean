/-
  How a law is joined to the abstract machine: a call from outside, with arguments that are trees.
  Conditions: none.
-/
import Derived.Test.YtnnjmbblpmghfaaGreatRows
import Derived.Test.YtnnjmbblpmghfaaGreatTk
import Derived.Test.YtnnjmbblpmghfaaGreatQ2
import Derived.ProofKit
set_option linter.unusedSimpArgs false
set_option linter.unusedVariables false
namespace Go.Proofs.YtnnjmbblpmghfaaGreat
open Go.ChangeShapes Go.WideShapes Go.ChangeAt Go.RowKit Go.Ab

theorem ownK : ownKnob Tryz.prog.godebug = none := by kernel_rfl
theorem laidOutK : laidOutB Tryz.prog = true := by kernel_rfl

/-- The ghost at a call from outside: no box; memory as it lies. -/
def gh0 (W : World) : Gh := ⟨fun _ => none, Wm W, fun _ _ => none⟩
theorem hinv0 (W : World) : HInv (gh0 W) [] W where
  mem := fun b o v h => h
  dom := fun i b h => by cases h
  box := fun i bx b h _ => by simp at h
  liv := fun i bx b h _ => by simp at h
  bnd := fun i bx h => by simp at h
  inj := fun i j b h => by cases h
  owinj := fun i o j p b h => by cases h
  owβ := fun i o j b h => by cases h
  owlt := fun i o b h => by cases h
theorem below_of {W w' : World} {g' : Gh} {R : Option Nat} (h : Ab.Post (gh0 W) W none [] g' w' R []) : Below W.heap.size W w' :=
  ⟨h.same.os, h.same.tape, h.same.output, h.same.size, fun k hk => (h.keep k hk (by
    rintro (⟨i, hi⟩ | ⟨i, o, hi⟩ | hi) <;> cases hi)).1⟩
theorem argsRep0 {W : World} {args : List V} {vs : List Value} (h : All2 (RepV (gh0 W)) args vs) (hn : ∀ v ∈ args, noOwn v) : ArgsRep (gh0 W) W none args vs where
  rep := h
  own := fun v u hv _ => OwnV.of_noOwn (hn v (List.mem_of_getElem? hv))
  no := fun j v hv => hn v (List.mem_of_getElem? hv)
  fresh := fun b h => by cases h
theorem rep_agg {W : World} {xs : List D} {cs : Array Value} (h : All2 (RepD (Wm W)) xs cs.toList) : RepV (gh0 W) (.agg (xs.map .d)) (.agg cs) :=
  ⟨cs.toList, by simp, All2.map_left _ (h.mono fun _ _ _ h => ⟨h, trivial⟩)⟩
def ext0 : Ab.Callee := fun _ _ _ => none
theorem ext0_ok : CalleeOK Tryz.prog ext0 := fun _ _ _ _ _ h => by cases h
theorem ext0_body : BodyOK Tryz.prog ext0 := fun _ _ _ _ _ h => by cases h

end Go.Proofs.YtnnjmbblpmghfaaGreat
