/-
  All code.
  Conditions: the callees' contracts.
-/
import Derived.Test.YtnnjmbblpmghfaaGreatX
import Derived.Test.YtnnjmbblpmghfaaGreatT
import Derived.Orders
import Derived.LoopN
import Derived.Scope
set_option linter.unusedSimpArgs false
set_option linter.unusedVariables false
namespace Go.Ab
section
variable {P : Program} {fx : Fx} {g : Gh} {S : Nat → Option Nat} {s : St} {a : Act} {w : World} {o : Oper} {Qx : Exit → Act → World → Prop}
/-! ### Code -/
def chkK (P : Program) (nt : Nat) : Code → K → Bool
  | .skip, .skip => true
  | .label _, .skip => true
  | .region _ ops draw, .reg xs => !draw && chkL P nt ops ops.toList xs
  | .region _ ops draw, .dreg items => draw && chkD P nt ops items && P.follows .mixedOrders
  | c, .keep _ _ _ _ a => chkK P nt c a
  | c, .kill _ a => chkK P nt c a
  | .seq x y, .seq a b => chkK P nt x a && chkK P nt y b
  | .cond c x y, .cond c' a b => opdOk c c' && chkK P nt x a && chkK P nt y b
  | .block id x, .block id' a => id == id' && chkK P nt x a
  | .loop x, .loop a => chkK P nt x a
  | .scope x, .scope a => chkK P nt x a
  | .exit id, .exit id' => id == id'
  | .ret, .ret => true
  | _, _ => false

def exOf : Ex → Exit
  | .normal => .normal
  | .exit id => .exit id
  | .ret => .ret
def PostK (fx : Fx) (e : Ex) (s' : St) : Exit → Act → World → Prop := fun e' a' w' => e' = exOf e ∧ Sim fx s' a' w'

theorem code_sound {call : Callee} (hcal : CalleeOK P call) (hbody : BodyOK P call) (fuel : Nat) : ∀ (k : K) (c : Code) (s s' : St) (e : Ex) (a : Act) (w : World), chkK P fx.nt c k = true → run call fuel k s = some (e, s') → Sim fx s a w → c.wp P (PostK fx e s') a w := by
  intro k
  induction k with
  | skip =>
    intro c s s' e a w hk hr h
    simp only [run] at hr; cases hr
    cases c <;> simp only [chkK, Bool.false_eq_true] at hk
    · exact wp_skip ⟨rfl, h⟩
    · exact wp_label ⟨rfl, h⟩
  | reg xs =>
    intro c s s' e a w hk hr h
    cases c <;> simp only [chkK, Bool.false_eq_true, Bool.and_eq_true, Bool.not_eq_true'] at hk
    rename_i id ops draw
    obtain ⟨rfl, hk⟩ := hk
    simp only [run] at hr
    split at hr
    · rename_i s1 hs1
      cases hr
      have hs := ops_sound (Qx := PostK fx .normal s') hcal hbody ops.toList _ 0 s s' a w (fun j => by simp) hk hs1 h (fun a' w' h' => ⟨rfl, h'⟩)
      refine wp_region ?_
      rw [List.range_eq_range']
      simpa using hs
    · cases hr
  | dreg items =>
    intro c s s' e a w hk hr h
    cases c <;> simp only [chkK, Bool.false_eq_true, Bool.and_eq_true] at hk
    rename_i id ops draw
    obtain ⟨⟨rfl, hk⟩, hmo⟩ := hk
    simp only [run] at hr
    have hdr : e = .normal ∧ DR call items s s' := by
      split at hr
      · rename_i hp
        split at hr
        case h_2 => cases hr
        rename_i s1 hs1
        cases hr
        exact ⟨rfl, DR_of_plain hp hs1⟩
      · split at hr
        case isFalse => cases hr
        rename_i hok
        split at hr
        case h_2 => cases hr
        rename_i s1 hs1
        cases hr
        exact ⟨rfl, runA_DR hok hs1⟩
    obtain ⟨rfl, hdr⟩ := hdr
    obtain ⟨g, S, h0⟩ := h
    exact wp_region_any hmo (dreg_sound (Qx := PostK fx .normal s') hcal hbody hk hdr ⟨g, S, h0.world ⟨rfl, rfl, rfl, Nat.le_refl _⟩ fun _ _ => rfl⟩ fun a' w' h' => ⟨rfl, h'⟩)
  | seq x y ihx ihy =>
    intro c s s' e a w hk hr h
    cases c <;> simp only [chkK, Bool.false_eq_true, Bool.and_eq_true] at hk
    simp only [run] at hr
    split at hr
    · rename_i s1 hs1
      refine wp_seq (wp_mono (ihx _ _ _ _ a w hk.1 hs1 h) ?_)
      rintro e' a' w' ⟨rfl, h'⟩
      exact ihy _ _ _ _ a' w' hk.2 hr h'
    · rename_i e1 s1 hne hs1
      cases hr
      refine wp_seq (wp_mono (ihx _ _ _ _ a w hk.1 hs1 h) ?_)
      rintro e' a' w' ⟨rfl, h'⟩
      cases e with
      | normal => exact (hne rfl).elim
      | exit id => exact ⟨rfl, h'⟩
      | ret => exact ⟨rfl, h'⟩
    · cases hr
  | cond c' x y ihx ihy =>
    intro c s s' e a w hk hr h
    cases c <;> simp only [chkK, Bool.false_eq_true, Bool.and_eq_true] at hk
    simp only [run] at hr
    split at hr
    · rename_i t hev
      obtain ⟨g, S, h0⟩ := h
      have r := ev_rep h0.e hk.1.1
      rw [hev] at r
      have r := RepV.bool r
      refine wp_cond r ?_
      cases t
      · exact ihy _ _ _ _ a w hk.2 (by simpa using hr) ⟨g, S, h0⟩
      · exact ihx _ _ _ _ a w hk.1.2 (by simpa using hr) ⟨g, S, h0⟩
    · cases hr
  | block id x ih =>
    intro c s s' e a w hk hr h
    cases c <;> simp only [chkK, Bool.false_eq_true, Bool.and_eq_true, beq_iff_eq] at hk
    obtain ⟨rfl, hk⟩ := hk
    simp only [run] at hr
    split at hr
    · rename_i j s1 hs1
      refine wp_block (wp_mono (ih _ _ _ _ a w hk hs1 h) ?_)
      rintro e' a' w' ⟨rfl, h'⟩
      simp only [exOf, Exit.inBlock]
      split at hr
      · rename_i hj; cases hr; rw [if_pos hj]; exact ⟨rfl, h'⟩
      · rename_i hj; cases hr; rw [if_neg hj]; exact ⟨rfl, h'⟩
    · rename_i e1 s1 hne hs1
      cases hr
      refine wp_block (wp_mono (ih _ _ _ _ a w hk hs1 h) ?_)
      rintro e' a' w' ⟨rfl, h'⟩
      cases e with
      | normal => exact ⟨rfl, h'⟩
      | exit id => exact (hne _ rfl).elim
      | ret => exact ⟨rfl, h'⟩
    · cases hr
  | loop b ih =>
    intro c s s' e a w hk hr h
    cases c <;> simp only [chkK, Bool.false_eq_true] at hk
    rename_i x
    simp only [run] at hr
    have key : ∀ n s a w, iter (run call fuel b) n s = some (e, s') → Sim fx s a w → Code.rounds P x (PostK fx e s') n a w := by
      intro n
      induction n with
      | zero => intro s a w hr; simp [iter] at hr
      | succ n ihn =>
        intro s a w hr h
        simp only [iter] at hr
        rw [rounds_succ]
        split at hr
        · rename_i s1 hs1
          refine wp_mono (ih _ _ _ _ a w hk hs1 h) ?_
          rintro e' a' w' ⟨rfl, h'⟩
          exact ihn s1 a' w' hr h'
        · rename_i e1 s1 hne hs1
          cases hr
          refine wp_mono (ih _ _ _ _ a w hk hs1 h) ?_
          rintro e' a' w' ⟨rfl, h'⟩
          cases e with
          | normal => exact (hne rfl).elim
          | exit id => exact ⟨rfl, h'⟩
          | ret => exact ⟨rfl, h'⟩
        · cases hr
    exact wp_loop_rounds fuel (key fuel s a w hr h)
  | scope x ih =>
    intro c s s' e a w hk hr h
    cases c <;> simp only [chkK, Bool.false_eq_true] at hk
    simp only [run] at hr
    refine wp_scope_straight (wp_mono (ih _ _ _ _ a w hk hr h) ?_)
    rintro e' a' w' ⟨rfl, h'⟩
    cases e <;> exact ⟨rfl, h'⟩
  | keep cut ts rts xs b ih =>
    intro c s s' e a w hk hr h
    have hk : chkK P fx.nt c b = true := by cases c <;> simpa only [chkK] using hk
    have hn0 : fx.n0 ≤ s.H.length := by obtain ⟨_, _, h0⟩ := h; exact h0.n0
    simp only [run] at hr
    split at hr
    · rename_i e1 s1 hs1
      split at hr
      · rename_i s2 hs2
        cases hr
        refine wp_mono (ih _ _ _ _ a w hk hs1 h) ?_
        rintro e' a' w' ⟨rfl, g, S, h'⟩
        exact ⟨rfl, h'.cut hn0 hs2⟩
      · cases hr
    · cases hr
  | kill ts b ih =>
    intro c s s' e a w hk hr h
    have hk : chkK P fx.nt c b = true := by cases c <;> simpa only [chkK] using hk
    simp only [run] at hr
    obtain ⟨g, S, h0⟩ := h
    exact ih _ _ _ _ a w hk hr h0.kill
  | exit id =>
    intro c s s' e a w hk hr h
    cases c <;> simp only [chkK, Bool.false_eq_true, beq_iff_eq] at hk
    subst hk
    simp only [run] at hr; cases hr
    exact wp_exit ⟨rfl, h⟩
  | ret =>
    intro c s s' e a w hk hr h
    cases c <;> simp only [chkK, Bool.false_eq_true] at hk
    simp only [run] at hr; cases hr
    exact wp_ret ⟨rfl, h⟩
end
end Go.Ab
