/-
  The abstract machine without fuel: what a call comes to, if it comes to anything.
  Conditions: none.
-/
import Derived.Test.YtnnjmbblpmghfaaGreatM
set_option linter.unusedSimpArgs false
set_option linter.unusedVariables false
namespace Go.Ab
/-- Operations that stand under one guard. -/
def grp (l : List IOp) : List IOp := l
def grpD (l : List (IOp × Bool × List (List Nat))) : List (IOp × Bool × List (List Nat)) := l
def CLe (c c2 : Callee) : Prop := ∀ f args H r, c f args H = some r → c2 f args H = some r
section
variable {c c2 : Callee}
theorem step_mono (h : CLe c c2) {s s' : St} {x : Op'} (hs : step c s x = some s') : step c2 s x = some s' := by
  cases x with
  | call d f args =>
    simp only [step] at hs ⊢
    split at hs
    · rename_i v H' hc; rw [h _ _ _ _ hc]; exact hs
    · cases hs
  | callo d f x args =>
    simp only [step] at hs ⊢
    split at hs
    · rename_i v H' hc; rw [h _ _ _ _ hc]; exact hs
    · cases hs
  | callv d x args =>
    simp only [step] at hs ⊢
    split at hs
    · split at hs
      · rename_i v H' hc; rw [h _ _ _ _ hc]; exact hs
      · cases hs
    · cases hs
  | _ => exact hs
theorem iop_mono (h : CLe c c2) {s s' : St} {x : IOp} (hs : iop c s x = some s') : iop c2 s x = some s' := by
  cases x with
  | o x => exact step_mono h hs
  | g t want d x =>
    simp only [iop] at hs ⊢
    split at hs
    · split at hs
      · rename_i hp; rw [if_pos hp]; exact step_mono h hs
      · rename_i hp; rw [if_neg hp]; exact hs
    · exact hs
    · cases hs
theorem runOps_mono (h : CLe c c2) : ∀ {xs : List IOp} {s s' : St}, runOps c s xs = some s' → runOps c2 s xs = some s'
  | [], s, s', hs => hs
  | x :: xs, s, s', hs => by
    simp only [runOps] at hs ⊢
    split at hs
    · rename_i s1 h1; rw [iop_mono h h1]; exact runOps_mono h hs
    · cases hs
theorem runD_mono (h : CLe c c2) : ∀ {xs : List (IOp × Bool × List (List Nat))} {s s' : St}, runD c s xs = some s' → runD c2 s xs = some s'
  | [], s, s', hs => hs
  | (x, e, a) :: xs, s, s', hs => by
    simp only [runD] at hs ⊢
    split at hs
    · rename_i s1 h1; rw [iop_mono h h1]
      split at hs
      · rename_i hc; simp only [if_pos hc]; exact runD_mono h hs
      · cases hs
    · cases hs
theorem ph1_mono (h : CLe c c2) {l : List Nat} : ∀ {ys : List (IOp × Bool × List (List Nat))} {i : Nat} {e : Env} {A : List (List Nat × Heap)} {T : List Td} {r : Env × List (List Nat × Heap) × List Td}, ph1 c l i e A T ys = some r → ph1 c2 l i e A T ys = some r
  | [], i, e, A, T, r, hs => hs
  | (x, ef, []) :: ys, i, e, A, T, r, hs => by simp only [ph1] at hs; cases hs
  | (x, ef, F :: Fs) :: ys, i, e, A, T, r, hs => by
    simp only [ph1] at hs ⊢
    split at hs
    · cases hs
    rename_i g hl
    split at hs
    · cases hs
    rename_i s1 h1
    rw [iop_mono h h1]
    split at hs
    · cases hs
    rename_i A1 ha
    simp only [ha]
    exact ph1_mono h hs
theorem tdGo_mono (h : CLe c c2) {l : List Nat} : ∀ {T : List Td} {A : List (List Nat × Heap)} {R : List Td} {r : List (List Nat × Heap) × List Td}, tdGo c l T A R = some r → tdGo c2 l T A R = some r
  | [], A, R, r, hs => hs
  | (i, x, ef, F, e, e1) :: T, A, R, r, hs => by
    simp only [tdGo] at hs ⊢
    split at hs
    · exact tdGo_mono h hs
    rename_i g hl
    split at hs
    · cases hs
    rename_i s1 h1
    simp only [iop_mono h h1]
    split at hs
    case isFalse => cases hs
    rename_i he
    split at hs
    · cases hs
    rename_i A1 ha
    simp only [if_pos he, ha]
    exact tdGo_mono h hs
theorem rounds_mono (h : CLe c c2) {l : List Nat} : ∀ {n : Nat} {T : List Td} {A A' : List (List Nat × Heap)}, rounds c l n T A = some A' → rounds c2 l n T A = some A'
  | n, [], A, A', hs => by cases n <;> exact hs
  | 0, t :: T, A, A', hs => by simp only [rounds] at hs; cases hs
  | n + 1, t :: T, A, A', hs => by
    simp only [rounds] at hs ⊢
    split at hs
    · cases hs
    rename_i A1 R h1
    rw [tdGo_mono h h1]
    exact rounds_mono h hs
theorem runA_mono (h : CLe c c2) {l : List Nat} {s s' : St} {items : List (IOp × Bool × List (List Nat))} (hs : runA c l s items = some s') : runA c2 l s items = some s' := by
  unfold runA at hs ⊢
  split at hs
  · cases hs
  rename_i e A T hc
  rw [ph1_mono h hc]
  split at hs
  · cases hs
  rename_i A' hr
  simp only [rounds_mono h hr]
  exact hs
theorem iter_mono {f f2 : St → Option (Ex × St)} (h : ∀ s r, f s = some r → f2 s = some r) : ∀ {n m : Nat} {s : St} {r : Ex × St}, n ≤ m → iter f n s = some r → iter f2 m s = some r
  | 0, _, _, _, _, hs => by cases hs
  | n + 1, 0, _, _, hl, _ => by omega
  | n + 1, m + 1, s, r, hl, hs => by
    simp only [iter] at hs ⊢
    split at hs
    · rename_i s1 h1; rw [h _ _ h1]; exact iter_mono h (by omega) hs
    · rename_i e s1 hne h1; rw [h _ _ h1]; cases hs; cases e <;> first | rfl | exact (hne rfl).elim
    · cases hs
theorem run_mono (h : CLe c c2) {n m : Nat} (hl : n ≤ m) : ∀ {k : K} {s : St} {r : Ex × St}, run c n k s = some r → run c2 m k s = some r := by
  intro k
  induction k with
  | skip => exact fun h => h
  | reg xs =>
    intro s r hs
    simp only [run] at hs ⊢
    split at hs
    · rename_i s1 h1; rw [runOps_mono h h1]; exact hs
    · cases hs
  | dreg items =>
    intro s r hs
    simp only [run] at hs ⊢
    split at hs
    · rename_i hp; rw [if_pos hp]
      split at hs
      · rename_i s1 h1; rw [runD_mono h h1]; exact hs
      · cases hs
    · rename_i hp; rw [if_neg hp]
      split at hs
      · rename_i hok; rw [if_pos hok]
        split at hs
        · rename_i s1 h1; rw [runA_mono h h1]; exact hs
        · cases hs
      · cases hs
  | seq a b iha ihb =>
    intro s r hs
    simp only [run] at hs ⊢
    split at hs
    · rename_i s1 h1; rw [iha h1]; exact ihb hs
    · rename_i e s1 hne h1; rw [iha h1]; cases e <;> first | exact hs | exact (hne rfl).elim
    · cases hs
  | cond x a b iha ihb =>
    intro s r hs
    simp only [run] at hs ⊢
    split at hs
    · rename_i t _
      cases t
      · exact ihb hs
      · exact iha hs
    · cases hs
  | block id b ih =>
    intro s r hs
    simp only [run] at hs ⊢
    split at hs
    · rename_i j s1 h1; rw [ih h1]; exact hs
    · rename_i e s1 hne h1; rw [ih h1]; cases e <;> first | exact hs | exact (hne _ rfl).elim
    · cases hs
  | loop b ih =>
    intro s r hs
    simp only [run] at hs ⊢
    exact iter_mono (fun s r h1 => ih h1) hl hs
  | scope b ih =>
    intro s r hs
    simp only [run] at hs ⊢
    exact ih hs
  | keep cut ts rts xs b ih =>
    intro s r hs
    simp only [run] at hs ⊢
    split at hs
    · rename_i e s1 h1; rw [ih h1]; exact hs
    · cases hs
  | kill ts b ih =>
    intro s r hs
    simp only [run] at hs ⊢
    exact ih hs
  | exit id => exact fun h => h
  | ret => exact fun h => h
end
section
variable {fns : Nat → Option KFn} {ext : Callee}
theorem pcallN_mono : ∀ {n m : Nat}, n ≤ m → CLe (pcallN fns ext n) (pcallN fns ext m)
  | 0, _, _ => fun _ _ _ _ h => by cases h
  | n + 1, 0, hl => by omega
  | n + 1, m + 1, hl => by
    intro f args H r h
    have ih := pcallN_mono (n := n) (m := m) (by omega)
    simp only [pcallN] at h ⊢
    split at h
    · split at h
      · rename_i hn; simp only [if_pos hn]
        split at h
        · rename_i s1 h1; rw [run_mono ih (by omega) h1]; exact h
        · rename_i s1 h1; rw [run_mono ih (by omega) h1]; exact h
        · cases h
      · cases h
    · exact h

noncomputable def lim {α : Type} (f : Nat → Option α) : Option α :=
  open Classical in if h : ∃ n r, f n = some r then f h.choose else none
theorem lim_iff {α : Type} {f : Nat → Option α} (hm : ∀ n m r, n ≤ m → f n = some r → f m = some r) {r : α} : lim f = some r ↔ ∃ n, f n = some r := by
  unfold lim
  constructor
  · intro h
    split at h
    · exact ⟨_, h⟩
    · cases h
  · rintro ⟨n, hn⟩
    have hex : ∃ n r, f n = some r := ⟨n, r, hn⟩
    rw [dif_pos hex]
    obtain ⟨r', hr'⟩ := hex.choose_spec
    rcases Nat.le_total n hex.choose with h | h
    · exact hm _ _ _ h hn
    · have := hm _ _ _ h hr'
      rw [hn] at this; cases this; exact hr'

noncomputable def callL (fns : Nat → Option KFn) (ext : Callee) : Callee := fun f args H => lim fun n => pcallN fns ext n f args H
noncomputable def runL (fns : Nat → Option KFn) (ext : Callee) (k : K) (s : St) : Option (Ex × St) := lim fun n => run (pcallN fns ext n) n k s
theorem callL_iff {f : Nat} {args : List V} {H : Heap} {r : V × Heap} : callL fns ext f args H = some r ↔ ∃ n, pcallN fns ext n f args H = some r :=
  lim_iff fun n m r hl h => pcallN_mono hl _ _ _ _ h
theorem R_mono {n m : Nat} (hl : n ≤ m) {k : K} {s : St} {r : Ex × St} (h : run (pcallN fns ext n) n k s = some r) : run (pcallN fns ext m) m k s = some r := run_mono (pcallN_mono hl) hl h
theorem runL_iff {k : K} {s : St} {r : Ex × St} : runL fns ext k s = some r ↔ ∃ n, run (pcallN fns ext n) n k s = some r :=
  lim_iff fun n m r hl h => R_mono hl h
theorem CLe_L (n : Nat) : CLe (pcallN fns ext n) (callL fns ext) := fun f args H r h => callL_iff.2 ⟨n, h⟩

theorem step_L {s s' : St} {x : Op'} (hs : step (callL fns ext) s x = some s') : ∃ n, step (pcallN fns ext n) s x = some s' := by
  cases x with
  | call d f args =>
    simp only [step] at hs ⊢
    split at hs
    · rename_i v H' hc; obtain ⟨n, hn⟩ := callL_iff.1 hc; exact ⟨n, by rw [hn]; exact hs⟩
    · cases hs
  | callo d f x args =>
    simp only [step] at hs ⊢
    split at hs
    · rename_i v H' hc; obtain ⟨n, hn⟩ := callL_iff.1 hc; exact ⟨n, by rw [hn]; exact hs⟩
    · cases hs
  | callv d x args =>
    simp only [step] at hs ⊢
    split at hs
    · split at hs
      · rename_i v H' hc; obtain ⟨n, hn⟩ := callL_iff.1 hc; exact ⟨n, by rw [hn]; exact hs⟩
      · cases hs
    · cases hs
  | _ => exact ⟨0, hs⟩
theorem iop_L {s s' : St} {x : IOp} (hs : iop (callL fns ext) s x = some s') : ∃ n, iop (pcallN fns ext n) s x = some s' := by
  cases x with
  | o x => exact step_L hs
  | g t want d x =>
    simp only [iop] at hs ⊢
    split at hs
    · split at hs
      · rename_i hp; obtain ⟨n, hn⟩ := step_L hs; exact ⟨n, by rw [if_pos hp]; exact hn⟩
      · rename_i hp; exact ⟨0, by rw [if_neg hp]; exact hs⟩
    · exact ⟨0, hs⟩
    · cases hs
theorem runOps_L : ∀ {xs : List IOp} {s s' : St}, runOps (callL fns ext) s xs = some s' → ∃ n, runOps (pcallN fns ext n) s xs = some s'
  | [], s, s', hs => ⟨0, hs⟩
  | x :: xs, s, s', hs => by
    simp only [runOps] at hs ⊢
    split at hs
    · rename_i s1 h1
      obtain ⟨n, hn⟩ := iop_L h1
      obtain ⟨m, hm⟩ := runOps_L hs
      exact ⟨max n m, by rw [iop_mono (pcallN_mono (Nat.le_max_left n m)) hn]; exact runOps_mono (pcallN_mono (Nat.le_max_right n m)) hm⟩
    · cases hs
theorem runD_L : ∀ {xs : List (IOp × Bool × List (List Nat))} {s s' : St}, runD (callL fns ext) s xs = some s' → ∃ n, runD (pcallN fns ext n) s xs = some s'
  | [], s, s', hs => ⟨0, hs⟩
  | (x, e, a) :: xs, s, s', hs => by
    simp only [runD] at hs ⊢
    split at hs
    · rename_i s1 h1
      split at hs
      · rename_i hc
        obtain ⟨n, hn⟩ := iop_L h1
        obtain ⟨m, hm⟩ := runD_L hs
        exact ⟨max n m, by rw [iop_mono (pcallN_mono (Nat.le_max_left n m)) hn]; simp only [if_pos hc]; exact runD_mono (pcallN_mono (Nat.le_max_right n m)) hm⟩
      · cases hs
    · cases hs
theorem fin_ex {p : Nat → Nat → Prop} (hm : ∀ n m i, n ≤ m → p n i → p m i) : ∀ (L : Nat), (∀ i, i < L → ∃ n, p n i) → ∃ n, ∀ i, i < L → p n i
  | 0, _ => ⟨0, fun i h => by omega⟩
  | L + 1, h => by
    obtain ⟨n, hn⟩ := fin_ex hm L fun i hi => h i (by omega)
    obtain ⟨m, hm'⟩ := h L (by omega)
    refine ⟨max n m, fun i hi => ?_⟩
    by_cases e : i = L
    · rw [e]; exact hm _ _ _ (Nat.le_max_right _ _) hm'
    · exact hm _ _ _ (Nat.le_max_left _ _) (hn i (by omega))
theorem list_ex {α : Type} {p : Nat → α → Prop} (hm : ∀ n m x, n ≤ m → p n x → p m x) : ∀ (l : List α), (∀ x ∈ l, ∃ n, p n x) → ∃ n, ∀ x ∈ l, p n x
  | [], _ => ⟨0, fun x h => by simp at h⟩
  | y :: l, h => by
    obtain ⟨n, hn⟩ := list_ex hm l fun x hx => h x (by simp [hx])
    obtain ⟨m, hm'⟩ := h y (by simp)
    refine ⟨max n m, fun x hx => ?_⟩
    rcases List.mem_cons.1 hx with rfl | hx
    · exact hm _ _ _ (Nat.le_max_right _ _) hm'
    · exact hm _ _ _ (Nat.le_max_left _ _) (hn x hx)
theorem ph1_L {l : List Nat} : ∀ {ys : List (IOp × Bool × List (List Nat))} {i : Nat} {e : Env} {A : List (List Nat × Heap)} {T : List Td} {r : Env × List (List Nat × Heap) × List Td}, ph1 (callL fns ext) l i e A T ys = some r → ∃ n, ph1 (pcallN fns ext n) l i e A T ys = some r
  | [], i, e, A, T, r, hs => ⟨0, hs⟩
  | (x, ef, []) :: ys, i, e, A, T, r, hs => by simp only [ph1] at hs; cases hs
  | (x, ef, F :: Fs) :: ys, i, e, A, T, r, hs => by
    simp only [ph1] at hs ⊢
    split at hs
    · cases hs
    rename_i g hl
    split at hs
    · cases hs
    rename_i s1 h1
    split at hs
    · cases hs
    rename_i A1 ha
    obtain ⟨n, hn⟩ := iop_L h1
    obtain ⟨m, hm⟩ := ph1_L hs
    refine ⟨max n m, ?_⟩
    rw [iop_mono (pcallN_mono (Nat.le_max_left n m)) hn]
    simp only [ha]
    exact ph1_mono (pcallN_mono (Nat.le_max_right n m)) hm
theorem tdGo_L {l : List Nat} : ∀ {T : List Td} {A : List (List Nat × Heap)} {R : List Td} {r : List (List Nat × Heap) × List Td}, tdGo (callL fns ext) l T A R = some r → ∃ n, tdGo (pcallN fns ext n) l T A R = some r
  | [], A, R, r, hs => ⟨0, hs⟩
  | (i, x, ef, F, e, e1) :: T, A, R, r, hs => by
    simp only [tdGo] at hs ⊢
    split at hs
    · exact tdGo_L hs
    rename_i g hl
    split at hs
    · cases hs
    rename_i s1 h1
    split at hs
    case isFalse => cases hs
    rename_i he
    split at hs
    · cases hs
    rename_i A1 ha
    obtain ⟨n, hn⟩ := iop_L h1
    obtain ⟨m, hm⟩ := tdGo_L hs
    refine ⟨max n m, ?_⟩
    simp only [iop_mono (pcallN_mono (Nat.le_max_left n m)) hn, if_pos he, ha]
    exact tdGo_mono (pcallN_mono (Nat.le_max_right n m)) hm
theorem rounds_L {l : List Nat} : ∀ {n : Nat} {T : List Td} {A A' : List (List Nat × Heap)}, rounds (callL fns ext) l n T A = some A' → ∃ m, rounds (pcallN fns ext m) l n T A = some A'
  | n, [], A, A', hs => ⟨0, by cases n <;> exact hs⟩
  | 0, t :: T, A, A', hs => by simp only [rounds] at hs; cases hs
  | n + 1, t :: T, A, A', hs => by
    simp only [rounds] at hs ⊢
    split at hs
    · cases hs
    rename_i A1 R h1
    obtain ⟨n, hn⟩ := tdGo_L h1
    obtain ⟨m, hm⟩ := rounds_L hs
    refine ⟨max n m, ?_⟩
    rw [tdGo_mono (pcallN_mono (Nat.le_max_left n m)) hn]
    exact rounds_mono (pcallN_mono (Nat.le_max_right n m)) hm
theorem runA_L {l : List Nat} {s s' : St} {items : List (IOp × Bool × List (List Nat))} (hs : runA (callL fns ext) l s items = some s') : ∃ n, runA (pcallN fns ext n) l s items = some s' := by
  unfold runA at hs
  split at hs
  · cases hs
  rename_i e A T hc
  split at hs
  · cases hs
  rename_i A' hr
  obtain ⟨n, hn⟩ := ph1_L hc
  obtain ⟨m, hm⟩ := rounds_L hr
  refine ⟨max n m, ?_⟩
  unfold runA
  rw [ph1_mono (pcallN_mono (Nat.le_max_left n m)) hn]
  simp only [rounds_mono (pcallN_mono (Nat.le_max_right n m)) hm]
  exact hs

/-! ### Equations -/
def seqN (x : Option (Ex × St)) (k : St → Option (Ex × St)) : Option (Ex × St) :=
  match x with
  | some (.normal, s') => k s'
  | some (e, s') => some (e, s')
  | none => none
def blkN (id : Nat) (x : Option (Ex × St)) : Option (Ex × St) :=
  match x with
  | some (.exit j, s') => if j = id then some (.normal, s') else some (.exit j, s')
  | some (e, s') => some (e, s')
  | none => none
def keepN (cut : Bool) (ts rts : List Nat) (xs : List (Nat × List Nat)) (n : Nat) (x : Option (Ex × St)) : Option (Ex × St) :=
  match x with
  | some (e, s') => match keepS cut (kset ts rts xs e) n s' with
    | some s2 => some (e, s2)
    | none => none
  | none => none
def nrm (x : Option St) : Option (Ex × St) :=
  match x with
  | some s' => some (.normal, s')
  | none => none
def finN (kf : KFn) (n0 : Nat) (x : Option (Ex × St)) : Option (V × Heap) :=
  match x with
  | some (.normal, s) => finish kf n0 s
  | some (.ret, s) => finish kf n0 s
  | _ => none

theorem runL_skip {s : St} : runL fns ext .skip s = some (.normal, s) := runL_iff.2 ⟨0, rfl⟩
theorem runL_exit {s : St} {id : Nat} : runL fns ext (.exit id) s = some (.exit id, s) := runL_iff.2 ⟨0, rfl⟩
theorem runL_ret {s : St} : runL fns ext .ret s = some (.ret, s) := runL_iff.2 ⟨0, rfl⟩
theorem runL_reg {s : St} {xs : List IOp} : runL fns ext (.reg xs) s = nrm (runOps (callL fns ext) s xs) := by
  apply Option.ext; intro r
  rw [runL_iff]
  constructor
  · rintro ⟨n, h⟩
    simp only [run] at h
    split at h
    · rename_i s1 h1; rw [runOps_mono (CLe_L n) h1]; exact h
    · cases h
  · intro h
    unfold nrm at h
    split at h
    · rename_i s1 h1
      obtain ⟨n, hn⟩ := runOps_L h1
      exact ⟨n, by simp only [run, hn]; exact h⟩
    · cases h
theorem runL_dreg_plain {s : St} {xs : List (IOp × Bool × List (List Nat))} (hp : plainD xs = true) : runL fns ext (.dreg xs) s = nrm (runD (callL fns ext) s xs) := by
  apply Option.ext; intro r
  rw [runL_iff]
  constructor
  · rintro ⟨n, h⟩
    simp only [run, if_pos hp] at h
    split at h
    · rename_i s1 h1; rw [runD_mono (CLe_L n) h1]; exact h
    · cases h
  · intro h
    unfold nrm at h
    split at h
    · rename_i s1 h1
      obtain ⟨n, hn⟩ := runD_L h1
      exact ⟨n, by simp only [run, if_pos hp, hn]; exact h⟩
    · cases h
theorem runL_dreg {s : St} {l : List Nat} {xs : List (IOp × Bool × List (List Nat))} (hp : plainD xs = false) (hok : okE xs = true) (hl : effs xs = l) : runL fns ext (.dreg xs) s = nrm (runA (callL fns ext) l s xs) := by
  subst hl
  apply Option.ext; intro r
  rw [runL_iff]
  constructor
  · rintro ⟨n, h⟩
    simp only [run, hp, Bool.false_eq_true, if_false, if_pos hok] at h
    split at h
    · rename_i s1 h1; rw [runA_mono (CLe_L n) h1]; exact h
    · cases h
  · intro h
    unfold nrm at h
    split at h
    · rename_i s1 h1
      obtain ⟨n, hn⟩ := runA_L h1
      exact ⟨n, by simp only [run, hp, Bool.false_eq_true, if_false, if_pos hok, hn]; exact h⟩
    · cases h
theorem runL_seq {s : St} {a b : K} : runL fns ext (.seq a b) s = seqN (runL fns ext a s) (runL fns ext b) := by
  apply Option.ext; intro r
  rw [runL_iff]
  constructor
  · rintro ⟨n, h⟩
    simp only [run] at h
    split at h
    · rename_i s1 h1; rw [runL_iff.2 ⟨n, h1⟩]; exact runL_iff.2 ⟨n, h⟩
    · rename_i e s1 hne h1; rw [runL_iff.2 ⟨n, h1⟩]; cases e <;> first | exact h | exact (hne rfl).elim
    · cases h
  · intro h
    unfold seqN at h
    split at h
    · rename_i s1 h1
      obtain ⟨n, hn⟩ := runL_iff.1 h1
      obtain ⟨m, hm⟩ := runL_iff.1 h
      exact ⟨max n m, by simp only [run, R_mono (Nat.le_max_left n m) hn]; exact R_mono (Nat.le_max_right n m) hm⟩
    · rename_i e s1 hne h1
      obtain ⟨n, hn⟩ := runL_iff.1 h1
      exact ⟨n, by simp only [run, hn]; cases e <;> first | exact h | exact (hne rfl).elim⟩
    · cases h
theorem runL_cond {s : St} {x : Opd} {a b : K} {t : Bool} (hx : ev s.env x = .c (.d (.b t))) : runL fns ext (.cond x a b) s = if t then runL fns ext a s else runL fns ext b s := by
  apply Option.ext; intro r
  rw [runL_iff]
  simp only [run, hx]
  cases t <;> simp [runL_iff]
theorem runL_block {s : St} {id : Nat} {b : K} : runL fns ext (.block id b) s = blkN id (runL fns ext b s) := by
  apply Option.ext; intro r
  rw [runL_iff]
  constructor
  · rintro ⟨n, h⟩
    simp only [run] at h
    split at h
    · rename_i j s1 h1; rw [runL_iff.2 ⟨n, h1⟩]; exact h
    · rename_i e s1 hne h1; rw [runL_iff.2 ⟨n, h1⟩]; cases e <;> first | exact h | exact (hne _ rfl).elim
    · cases h
  · intro h
    unfold blkN at h
    split at h
    · rename_i j s1 h1
      obtain ⟨n, hn⟩ := runL_iff.1 h1
      exact ⟨n, by simp only [run, hn]; exact h⟩
    · rename_i e s1 hne h1
      obtain ⟨n, hn⟩ := runL_iff.1 h1
      exact ⟨n, by simp only [run, hn]; cases e <;> first | exact h | exact (hne _ rfl).elim⟩
    · cases h
theorem runL_loop {s : St} {b : K} : runL fns ext (.loop b) s = seqN (runL fns ext b s) (runL fns ext (.loop b)) := by
  apply Option.ext; intro r
  rw [runL_iff]
  constructor
  · rintro ⟨n, h⟩
    cases n with
    | zero => simp only [run, iter] at h; cases h
    | succ n =>
      simp only [run, iter] at h
      split at h
      · rename_i s1 h1; rw [runL_iff.2 ⟨n + 1, h1⟩]
        exact runL_iff.2 ⟨n + 1, by simp only [run]; exact iter_mono (fun _ _ h => h) (Nat.le_succ n) h⟩
      · rename_i e s1 hne h1; rw [runL_iff.2 ⟨n + 1, h1⟩]; cases e <;> first | exact h | exact (hne rfl).elim
      · cases h
  · intro h
    unfold seqN at h
    split at h
    · rename_i s1 h1
      obtain ⟨n, hn⟩ := runL_iff.1 h1
      obtain ⟨m, hm⟩ := runL_iff.1 h
      refine ⟨max n m + 1, ?_⟩
      simp only [run] at hm
      simp only [run, iter, R_mono (m := max n m + 1) (by omega) hn]
      exact iter_mono (fun _ _ h => run_mono (pcallN_mono (by omega)) (by omega) h) (Nat.le_max_right n m) hm
    · rename_i e s1 hne h1
      obtain ⟨n, hn⟩ := runL_iff.1 h1
      refine ⟨n + 1, ?_⟩
      simp only [run, iter, R_mono (m := n + 1) (by omega) hn]
      cases e <;> first | exact h | exact (hne rfl).elim
    · cases h
theorem runL_scope {s : St} {b : K} : runL fns ext (.scope b) s = runL fns ext b s := rfl
theorem runL_kill {s : St} {ts : List Nat} {b : K} : runL fns ext (.kill ts b) s = runL fns ext b ⟨keepE s.env ts, s.H⟩ := rfl
theorem runL_keep {s : St} {cut : Bool} {ts rts : List Nat} {xs : List (Nat × List Nat)} {b : K} : runL fns ext (.keep cut ts rts xs b) s = keepN cut ts rts xs s.H.length (runL fns ext b s) := by
  apply Option.ext; intro r
  rw [runL_iff]
  constructor
  · rintro ⟨n, h⟩
    simp only [run] at h
    split at h
    · rename_i e s1 h1; rw [runL_iff.2 ⟨n, h1⟩]; exact h
    · cases h
  · intro h
    unfold keepN at h
    split at h
    · rename_i e s1 h1
      obtain ⟨n, hn⟩ := runL_iff.1 h1
      exact ⟨n, by simp only [run, hn]; exact h⟩
    · cases h
theorem callL_eq {f : Nat} {args : List V} {H : Heap} {kf : KFn} (hf : fns f = some kf) (hn : args.length = kf.np) : callL fns ext f args H = finN kf H.length (runL fns ext kf.body ⟨env0 args, H⟩) := by
  apply Option.ext; intro r
  rw [callL_iff]
  constructor
  · rintro ⟨n, h⟩
    cases n with
    | zero => simp only [pcallN] at h; cases h
    | succ n =>
      simp only [pcallN, hf, if_pos hn] at h
      split at h
      · rename_i s1 h1; rw [runL_iff.2 ⟨n, h1⟩]; exact h
      · rename_i s1 h1; rw [runL_iff.2 ⟨n, h1⟩]; exact h
      · cases h
  · intro h
    unfold finN at h
    split at h
    · rename_i s1 h1
      obtain ⟨n, hn'⟩ := runL_iff.1 h1
      exact ⟨n + 1, by simp only [pcallN, hf, if_pos hn, hn']; exact h⟩
    · rename_i s1 h1
      obtain ⟨n, hn'⟩ := runL_iff.1 h1
      exact ⟨n + 1, by simp only [pcallN, hf, if_pos hn, hn']; exact h⟩
    · cases h
theorem callL_ext {f : Nat} {args : List V} {H : Heap} (hf : fns f = none) : callL fns ext f args H = ext f args H := by
  apply Option.ext; intro r
  rw [callL_iff]
  constructor
  · rintro ⟨n, h⟩
    cases n with
    | zero => simp only [pcallN] at h; cases h
    | succ n => simpa only [pcallN, hf] using h
  · intro h; exact ⟨1, by simp only [pcallN, hf]; exact h⟩
/-- What the machine's call comes to, the model's call returns. -/
theorem callL_sound {P : Program} (hk : ∀ f kf, fns f = some kf → chkFn P f kf = true) (hx : CalleeOK P ext) (hxb : BodyOK P ext) {f : Nat} {args : List V} {H : Heap} {r : V} {H' : Heap} (h : callL fns ext f args H = some (r, H')) : CallOK P f args H r H' := by
  obtain ⟨n, hn⟩ := callL_iff.1 h
  exact (pcall_sound hk hx hxb n).1 f args H r H' hn
end
end Go.Ab
