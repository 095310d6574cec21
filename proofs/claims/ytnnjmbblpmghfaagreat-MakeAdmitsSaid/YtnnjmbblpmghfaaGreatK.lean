/-
  Regions in the order of the text, and all code.
  Conditions: the callees' contracts.
-/
import Derived.Test.YtnnjmbblpmghfaaGreatJ
import Derived.LoopN
import Derived.Scope
set_option linter.unusedSimpArgs false
set_option linter.unusedVariables false
namespace Go.Ab
section
variable {P : Program} {fx : Fx} {g : Gh} {S : Nat → Option Nat} {s : St} {a : Act} {w : World} {o : Oper} {Qx : Exit → Act → World → Prop}

def BodyOK (P : Program) (call : Callee) : Prop := ∀ f args H r H', call f args H = some (r, H') → bodyOk P f = true

/-- ALL OPERATIONS. -/
theorem step_sound {call : Callee} (hcal : CalleeOK P call) (hbody : BodyOK P call) {x : Op'} (hc : chkOp P fx.nt o x = true) {s' : St} (hs : step call s x = some s') (h : SimG fx g S s a w) : o.wp P a w (fun a' w' => Sim fx s' a' w') Qx := by
  cases x with
  | q d q => exact s_q hc hs h
  | tk d x => exact s_tk hc hs h
  | alloc d z => exact s_alloc hc hs h
  | box d n x => exact s_box hc hs h
  | st n a x => exact s_st hc hs h
  | ldt d a => exact s_ldt hc hs h
  | stt a x => exact s_stt hc hs h
  | bsl d e sz n z ps => exact s_bsl hc hs h
  | bsv d e n ps => exact s_bsv hc hs h
  | app d e sz bytes x y => exact s_app hc hs h
  | call d f args => exact s_call hc hcal hs h
  | callo d f x args => exact s_callo hc hcal hs h
  | callv d x args => exact s_callv hc hcal hs h hbody
  | mks => simp [chkOp] at hc
  | frz => simp [chkOp] at hc
  | thw => simp [chkOp] at hc

section
variable (P : Program)
def chkI (nt : Nat) (ops : Array Oper) (o : Oper) : IOp → Bool
  | .o x => o.guard.isNone && chkOp P nt o x
  | .g t want d x => (match o.guard with
    | some (j, want') => (match ops[j]? with
      | some oj => oj.dst == some t
      | none => false) && want' == want
    | none => false) && dstOk nt o.dst d && chkOp P nt o x
def chkL (nt : Nat) (ops : Array Oper) : List Oper → List IOp → Bool
  | [], [] => true
  | o :: os, x :: xs => chkI P nt ops o x && chkL nt ops os xs
  | _, _ => false
end

theorem wanted_of {ops : Array Oper} {x : IOp} (hc : chkI P fx.nt ops o x = true) (h : SimG fx g S s a w) {call : Callee} {s' : St} (hs : iop call s x = some s') :
    (Region.wanted o (yielded ops a.tmps) = true ∧ ∃ y, chkOp P fx.nt o y = true ∧ step call s y = some s') ∨
    (Region.wanted o (yielded ops a.tmps) = false ∧ ∃ d, o.dst = some d ∧ d < fx.nt ∧ s' = ⟨upd s.env d (.tup []), s.H⟩) := by
  cases x with
  | o y =>
    simp only [chkI, Bool.and_eq_true, Option.isNone_iff_eq_none] at hc
    exact .inl ⟨by simp [Region.wanted, hc.1], y, hc.2, hs⟩
  | g t want d y =>
    simp only [chkI, Bool.and_eq_true] at hc
    obtain ⟨⟨hg, hd⟩, hc⟩ := hc
    obtain ⟨hd, hlt⟩ := dstOk_spec hd
    split at hg
    case h_2 => cases hg
    rename_i j want' hgd
    simp only [Bool.and_eq_true, beq_iff_eq] at hg
    obtain ⟨hj, rfl⟩ := hg
    split at hj
    case h_2 => cases hj
    rename_i oj hoj
    have hj := eq_of_beq hj
    simp only [iop] at hs
    split at hs
    case h_3 => cases hs
    case h_2 =>
      rename_i e
      have r := h.e.rep t
      rw [e] at r
      obtain ⟨us, hus, hall⟩ := r
      cases hall
      cases hs
      refine .inr ⟨?_, d, hd, hlt, rfl⟩
      have hy : yielded ops a.tmps j = none := by
        unfold yielded
        rw [hoj]
        simp only [Option.bind_some, hj]
        cases hx : a.tmps[t]? with
        | none => rfl
        | some v =>
          rw [Array.getD_eq_getD_getElem?, hx] at hus
          simp only [Option.getD_some] at hus
          subst hus; rfl
      simp [Region.wanted, hgd, hy]
    rename_i p e
    have r := h.e.rep t
    rw [e] at r
    have r := RepV.bool r
    have hy : yielded ops a.tmps j = some p := by
      have hlt' : t < a.tmps.size := by
        apply Classical.byContradiction
        intro hh
        rw [Array.getD_eq_getD_getElem?, Array.getElem?_eq_none (by omega)] at r
        cases r
      have : a.tmps[t]? = some (.bool p) := by
        rw [Array.getD_eq_getD_getElem?, Array.getElem?_eq_getElem hlt'] at r
        rw [Array.getElem?_eq_getElem hlt']
        simpa using r
      simp [yielded, hoj, hj, this]
    have hw : Region.wanted o (yielded ops a.tmps) = (p == want') := by
      simp only [Region.wanted, hgd, hy]
      cases p <;> cases want' <;> rfl
    split at hs
    · rename_i hp
      subst hp
      exact .inl ⟨by rw [hw]; simp, y, hc, hs⟩
    · rename_i hp
      cases hs
      exact .inr ⟨by rw [hw]; simpa using hp, d, hd, hlt, rfl⟩

theorem iop_sound {call : Callee} (hcal : CalleeOK P call) (hbody : BodyOK P call) {ops : Array Oper} {i : Nat} (hi : ops[i]? = some o) {x : IOp} (hc : chkI P fx.nt ops o x = true) {s' : St} (hs : iop call s x = some s') (h : Sim fx s a w)
    {K : Act → World → Prop} (hK : ∀ a' w', Sim fx s' a' w' → K a' w') : wpOp P ops Qx i K a w := by
  obtain ⟨g, S, h⟩ := h
  unfold wpOp
  simp only [hi]
  rcases wanted_of hc h hs with ⟨hw, y, hcy, hsy⟩ | ⟨hw, d, hd, hlt, rfl⟩
  · rw [if_pos hw]
    exact .inl (Oper.wp_mono hK (step_sound hcal hbody hcy hsy h))
  · rw [if_neg (by rw [hw]; simp)]
    rw [hd]
    exact hK _ _ ⟨g, _, h.put hlt (x := .tup []) ⟨[], rfl, .nil⟩ trivial⟩

theorem ops_sound {call : Callee} (hcal : CalleeOK P call) (hbody : BodyOK P call) {ops : Array Oper} : ∀ (l : List Oper) (xs : List IOp) (k : Nat) (s s' : St) (a : Act) (w : World), (∀ j, l[j]? = ops[k + j]?) → chkL P fx.nt ops l xs = true → runOps call s xs = some s' → Sim fx s a w →
    (∀ a' w', Sim fx s' a' w' → Qx .normal a' w') → wpOps P ops Qx (List.range' k l.length) a w
  | [], [], k, s, s', a, w, hl, _, hr, h, hQ => by
    simp only [runOps] at hr; cases hr
    exact hQ _ _ h
  | [], x :: xs, _, _, _, _, _, _, hc, _, _, _ => by simp [chkL] at hc
  | o :: os, [], _, _, _, _, _, _, hc, _, _, _ => by simp [chkL] at hc
  | o :: os, x :: xs, k, s, s', a, w, hl, hc, hr, h, hQ => by
    simp only [chkL, Bool.and_eq_true] at hc
    simp only [runOps] at hr
    split at hr
    case h_2 => cases hr
    rename_i s1 hs1
    have hi : ops[k]? = some o := by have := hl 0; simpa using this.symm
    show wpOps P ops Qx (k :: List.range' (k + 1) os.length) a w
    rw [wpOps_cons]
    refine iop_sound hcal hbody hi hc.1 hs1 h ?_
    intro a' w' h'
    exact ops_sound hcal hbody os xs (k + 1) s1 s' a' w' (fun j => by have := hl (j + 1); rw [show k + (j + 1) = k + 1 + j by omega] at this; simpa using this) hc.2 hr h' hQ
end
end Go.Ab
