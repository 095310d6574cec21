/-
  What an operation of the abstract machine looks at, and what it writes.
  Conditions: none; definitions and lemmas.
-/
import Derived.Test.YtnnjmbblpmghfaaGreatA
set_option linter.unusedSimpArgs false
set_option linter.unusedVariables false
namespace Go.Ab

def nmO : Opd → List Nat
  | .t n => [n]
  | .k _ => []
def nmL : List Opd → List Nat
  | [] => []
  | x :: xs => nmO x ++ nmL xs
def nmP : List (Nat × Nat × Opd) → List Nat
  | [] => []
  | (_, _, x) :: xs => nmO x ++ nmP xs
def nmM : Option Opd → List Nat
  | none => []
  | some x => nmO x
def nmQ : Q → List Nat
  | .mv x | .ld x | .lda _ x | .nck x | .eqn x | .eqp x | .neg x | .not x | .cvi _ x | .cvs x | .fad _ x | .fld _ x | .ext x _ | .len x => nmO x
  | .pick c a b => nmO c ++ (nmO a ++ nmO b)
  | .bld _ ps => nmP ps
  | .bin _ x y | .eqb _ x y | .eqs _ x y | .eqa _ _ x y | .ias _ x y | .iaa _ _ x y | .ix _ x y | .ixa _ _ x y | .mm _ x y => nmO x ++ nmO y
  | .mkf _ fs cs => nmL fs ++ nmL cs
  | .sls _ x lo hi | .sla _ _ x lo hi => nmO x ++ (nmM lo ++ nmM hi)
def nmX : Op' → List Nat
  | .q _ q => nmQ q
  | .tk _ x => [x]
  | .alloc _ _ => []
  | .box _ _ x => nmO x
  | .st _ a x => nmO a ++ nmO x
  | .ldt _ a => nmO a
  | .stt a x => nmO a ++ [x]
  | .bsl _ _ _ _ _ ps => nmP ps
  | .bsv _ _ _ ps => nmP ps
  | .app _ _ _ _ x y => [x] ++ nmO y
  | .call _ _ args => nmL args
  | .callo _ _ x args => [x] ++ nmL args
  | .callv _ x args => nmO x ++ nmL args
  | .mks _ _ _ _ _ n => nmO n
  | .frz _ x => [x]
  | .thw _ x => [x]
def optL : Option Nat → List Nat
  | some d => [d]
  | none => []
def wrX : Op' → List Nat
  | .q d _ => [d]
  | .tk d x => [d, x]
  | .alloc d _ => [d]
  | .box d _ _ => [d]
  | .st _ _ _ => []
  | .ldt d _ => [d]
  | .stt _ x => [x]
  | .bsl d _ _ _ _ _ => [d]
  | .bsv d _ _ _ => [d]
  | .app d _ _ _ x _ => [d, x]
  | .call d _ _ => optL d
  | .callo d _ x _ => [d, x]
  | .callv d _ _ => optL d
  | .mks d _ _ _ _ _ => [d]
  | .frz d _ => [d]
  | .thw d x => [d, x]
def nmI : IOp → List Nat
  | .o x => nmX x
  | .g t _ _ x => t :: nmX x
def wrI : IOp → List Nat
  | .o x => wrX x
  | .g _ _ d x => d :: wrX x

section
variable {e e2 : Env}
theorem ev_loc {x : Opd} (h : ∀ t ∈ nmO x, e2 t = e t) : ev e2 x = ev e x := by
  cases x with
  | t n => simp only [ev]; rw [h n (by simp [nmO])]
  | k c => rfl
theorem evs_loc : ∀ {xs : List Opd}, (∀ t ∈ nmL xs, e2 t = e t) → evs e2 xs = evs e xs
  | [], _ => rfl
  | x :: xs, h => by
    simp only [evs]
    rw [ev_loc fun t ht => h t (by simp [nmL, ht]), evs_loc fun t ht => h t (by simp [nmL, ht])]
theorem ptrs_loc : ∀ {xs : List Opd}, (∀ t ∈ nmL xs, e2 t = e t) → ptrs e2 xs = ptrs e xs
  | [], _ => rfl
  | x :: xs, h => by
    simp only [ptrs]
    rw [ev_loc fun t ht => h t (by simp [nmL, ht]), ptrs_loc fun t ht => h t (by simp [nmL, ht])]
theorem putAll_loc : ∀ {ps : List (Nat × Nat × Opd)} {cs : List C}, (∀ t ∈ nmP ps, e2 t = e t) → putAll e2 cs ps = putAll e cs ps
  | [], _, _ => rfl
  | (off, n, x) :: ps, cs, h => by
    simp only [putAll]
    rw [ev_loc fun t ht => h t (by simp [nmP, ht])]
    have ih : ∀ cs, putAll e2 cs ps = putAll e cs ps := fun cs => putAll_loc fun t ht => h t (by simp [nmP, ht])
    simp only [ih]
theorem natOf_loc {x : Option Opd} {n : Nat} (h : ∀ t ∈ nmM x, e2 t = e t) : natOf e2 x n = natOf e x n := by
  cases x with
  | none => rfl
  | some x => simp only [natOf]; rw [ev_loc h]

theorem qv_loc {H : Heap} {q : Q} (h : ∀ t ∈ nmQ q, e2 t = e t) : qv e2 H q = qv e H q := by
  cases q <;> simp only [nmQ] at h <;> simp only [qv] <;> first
    | rw [ev_loc h]
    | rw [putAll_loc h]
    | (rw [ev_loc fun t ht => h t (List.mem_append_left _ ht), ev_loc fun t ht => h t (List.mem_append_right _ ht)]; done)
    | (rw [ev_loc fun t ht => h t (List.mem_append_left _ ht), ev_loc fun t ht => h t (List.mem_append_right _ (List.mem_append_left _ ht)), ev_loc fun t ht => h t (List.mem_append_right _ (List.mem_append_right _ ht))]; done)
    | (rw [ptrs_loc fun t ht => h t (List.mem_append_left _ ht), ptrs_loc fun t ht => h t (List.mem_append_right _ ht)]; done)
    | (simp only [ev_loc fun t ht => h t (List.mem_append_left _ ht), natOf_loc (x := ‹Option Opd›) fun t ht => h t (List.mem_append_right _ (List.mem_append_left _ ht))]; done)
    | skip
  · rename_i sz x lo hi
    simp only [ev_loc (x := x) fun t ht => h t (List.mem_append_left _ ht)]
    have h1 : ∀ n, natOf e2 lo n = natOf e lo n := fun n => natOf_loc fun t ht => h t (List.mem_append_right _ (List.mem_append_left _ ht))
    have h2 : ∀ n, natOf e2 hi n = natOf e hi n := fun n => natOf_loc fun t ht => h t (List.mem_append_right _ (List.mem_append_right _ ht))
    simp only [h1, h2]
  · rename_i n sz x lo hi
    simp only [ev_loc (x := x) fun t ht => h t (List.mem_append_left _ ht)]
    have h1 : ∀ n, natOf e2 lo n = natOf e lo n := fun n => natOf_loc fun t ht => h t (List.mem_append_right _ (List.mem_append_left _ ht))
    have h2 : ∀ n, natOf e2 hi n = natOf e hi n := fun n => natOf_loc fun t ht => h t (List.mem_append_right _ (List.mem_append_right _ ht))
    simp only [h1, h2]

/-- An environment that is another one's at some slots. -/
def mrg (ws : List Nat) (e' e2 : Env) : Env := fun t => if t ∈ ws then e' t else e2 t
theorem mrg_upd {d : Nat} {v : V} : upd e2 d v = mrg [d] (upd e d v) e2 := by
  funext t; simp only [mrg, upd, List.mem_singleton]; split <;> rfl
theorem mrg_upd2 {d x : Nat} {v u : V} : upd (upd e2 x u) d v = mrg [d, x] (upd (upd e x u) d v) e2 := by
  funext t
  simp only [mrg, upd, List.mem_cons, List.not_mem_nil, or_false]
  by_cases h1 : t = d
  · simp [h1]
  · by_cases h2 : t = x
    · simp [h1, h2]
    · simp [h1, h2]
theorem mrg_nil {e' : Env} : e2 = mrg [] e' e2 := by funext t; simp [mrg]
theorem mrg_setD {d : Option Nat} {v : V} : setD e2 d v = mrg (optL d) (setD e d v) e2 := by
  cases d with
  | none => exact mrg_nil
  | some d => exact mrg_upd
theorem upd_ne {d t : Nat} {v : V} (h : t ≠ d) : upd e d v t = e t := by simp [upd, h]

/-- AN OPERATION LOOKS AT WHAT IT NAMES, and writes what it writes. -/
theorem step_loc {call : Callee} {H : Heap} {x : Op'} {s' : St} (hs : step call ⟨e, H⟩ x = some s') (h : ∀ t ∈ nmX x, e2 t = e t) :
    step call ⟨e2, H⟩ x = some ⟨mrg (wrX x) s'.env e2, s'.H⟩ ∧ ∀ t, t ∉ wrX x → s'.env t = e t := by
  cases x with
  | q d q =>
    simp only [step] at hs ⊢
    rw [qv_loc h]
    split at hs
    · rename_i v hv; cases hs; try rw [hv]
      exact ⟨by simp only [wrX]; rw [← mrg_upd], fun t ht => upd_ne (by simpa [wrX] using ht)⟩
    · cases hs
  | tk d x =>
    simp only [step] at hs ⊢
    cases hs
    rw [h x (by simp [nmX])]
    refine ⟨by simp only [wrX]; rw [← mrg_upd2], fun t ht => ?_⟩
    simp only [wrX, List.mem_cons, List.not_mem_nil, or_false, not_or] at ht
    show upd (upd e x _) d _ t = e t
    rw [upd_ne ht.1, upd_ne ht.2]
  | alloc d z =>
    simp only [step] at hs ⊢
    cases hs
    exact ⟨by simp only [wrX]; rw [← mrg_upd], fun t ht => upd_ne (by simpa [wrX] using ht)⟩
  | box d n x =>
    simp only [step] at hs ⊢
    rw [ev_loc h]
    split at hs
    · rename_i xs hxs; try rw [hxs]
      try simp only at hs
      try simp only
      split at hs
      · rename_i hn; cases hs; try rw [if_pos hn]
        exact ⟨by simp only [wrX]; rw [← mrg_upd], fun t ht => upd_ne (by simpa [wrX] using ht)⟩
      · cases hs
    · cases hs
  | st n a x =>
    simp only [step] at hs ⊢
    rw [ev_loc (x := a) fun t ht => h t (by simp [nmX, ht]), ev_loc (x := x) fun t ht => h t (by simp [nmX, ht])]
    split at hs
    · rename_i id off xs e1 e3
      try rw [e1, e3]
      try simp only at hs
      try simp only
      split at hs
      · rename_i hn
        try rw [if_pos hn]
        split at hs
        · rename_i H' hst; cases hs; try rw [hst]
          exact ⟨by simp only [wrX]; rw [← mrg_nil], fun _ _ => rfl⟩
        · cases hs
      · cases hs
    · cases hs
  | ldt d a =>
    simp only [step] at hs ⊢
    rw [ev_loc h]
    split at hs
    case h_2 => cases hs
    rename_i id off e1
    try rw [e1]
    try simp only at hs
    try simp only
    split at hs
    case h_2 => cases hs
    rename_i bx hbx
    try rw [hbx]
    try simp only at hs
    try simp only
    split at hs
    · rename_i e' sz rows hc; cases hs
      exact ⟨by simp only [wrX]; rw [← mrg_upd], fun t ht => upd_ne (by simpa [wrX] using ht)⟩
    · rename_i sz hc; cases hs
      exact ⟨by simp only [wrX]; rw [← mrg_upd], fun t ht => upd_ne (by simpa [wrX] using ht)⟩
    · cases hs
  | stt a x =>
    simp only [step] at hs ⊢
    rw [ev_loc (x := a) fun t ht => h t (by simp [nmX, ht]), h x (by simp [nmX])]
    split at hs
    · rename_i id off e' sz rows e1 e3
      try rw [e1, e3]
      try simp only at hs
      try simp only
      split at hs
      · rename_i H' hst; cases hs; try rw [hst]
        exact ⟨by simp only [wrX]; rw [← mrg_upd], fun t ht => upd_ne (by simpa [wrX] using ht)⟩
      · cases hs
    · rename_i id off sz e1 e3
      try rw [e1, e3]
      try simp only at hs
      try simp only
      split at hs
      · rename_i H' hst; cases hs; try rw [hst]
        refine ⟨?_, fun _ _ => rfl⟩
        simp only [wrX]
        congr 2
        funext t
        simp only [mrg, List.mem_singleton]
        split
        · rename_i et; subst et; exact h t (by simp [nmX])
        · rfl
      · cases hs
    · cases hs
  | bsl d e' sz n z ps =>
    simp only [step] at hs ⊢
    rw [putAll_loc h]
    split at hs
    case h_2 => cases hs
    rename_i cs hcs
    try rw [hcs]
    try simp only at hs
    try simp only
    split at hs
    case h_2 => cases hs
    rename_i l hl
    try rw [hl]
    try simp only at hs
    try simp only
    split at hs
    · rename_i hz; cases hs; try rw [if_pos hz]
      exact ⟨by simp only [wrX]; rw [← mrg_upd], fun t ht => upd_ne (by simpa [wrX] using ht)⟩
    · cases hs
  | bsv d e' n ps =>
    simp only [step] at hs ⊢
    rw [putAll_loc h]
    split at hs
    · rename_i cs hcs; cases hs; try rw [hcs]
      exact ⟨by simp only [wrX]; rw [← mrg_upd], fun t ht => upd_ne (by simpa [wrX] using ht)⟩
    · cases hs
  | app d e' sz bytes x y =>
    simp only [step] at hs ⊢
    rw [ev_loc (x := y) fun t ht => h t (by simp [nmX, ht]), h x (by simp [nmX])]
    split at hs
    · rename_i e1 sz' rows sz'' new e3 e4
      try rw [e3, e4]
      try simp only at hs
      try simp only
      split at hs
      case isFalse => cases hs
      rename_i c1; try rw [if_pos c1]
      split at hs
      case isFalse => cases hs
      rename_i c2; try rw [if_pos c2]
      split at hs
      case isFalse => cases hs
      rename_i c3; try rw [if_pos c3]
      split at hs
      case isFalse => cases hs
      rename_i c4; try rw [if_pos c4]
      cases hs
      refine ⟨by simp only [wrX]; rw [← mrg_upd2], fun t ht => ?_⟩
      simp only [wrX, List.mem_cons, List.not_mem_nil, or_false, not_or] at ht
      show upd (upd e x _) d _ t = e t
      rw [upd_ne ht.1, upd_ne ht.2]
    · rename_i sz' sz'' new e3 e4
      try rw [e3, e4]
      try simp only at hs
      try simp only
      split at hs
      case isFalse => cases hs
      rename_i c1; try rw [if_pos c1]
      split at hs
      case isFalse => cases hs
      rename_i c2; try rw [if_pos c2]
      split at hs
      case isFalse => cases hs
      rename_i c3; try rw [if_pos c3]
      cases hs
      refine ⟨?_, fun t ht => ?_⟩
      · simp only [wrX]
        congr 2
        funext t
        simp only [mrg, upd, List.mem_cons, List.not_mem_nil, or_false]
        by_cases h1 : t = d
        · simp [h1]
        · by_cases h2 : t = x
          · subst h2; simp [h1, h t (by simp [nmX])]
          · simp [h1, h2]
      · simp only [wrX, List.mem_cons, List.not_mem_nil, or_false, not_or] at ht
        exact upd_ne ht.1
    · cases hs
  | call d f args =>
    simp only [step] at hs ⊢
    rw [evs_loc h]
    split at hs
    · rename_i v H' hc; cases hs; try rw [hc]
      refine ⟨by simp only [wrX]; rw [← mrg_setD], fun t ht => ?_⟩
      cases d with
      | none => rfl
      | some d => exact upd_ne (by simpa [wrX, optL] using ht)
    · cases hs
  | callo d f x args =>
    simp only [step] at hs ⊢
    rw [evs_loc fun t ht => h t (by simp [nmX, ht]), h x (by simp [nmX])]
    split at hs
    · rename_i v H' hc; cases hs; try rw [hc]
      refine ⟨by simp only [wrX]; rw [← mrg_upd2], fun t ht => ?_⟩
      simp only [wrX, List.mem_cons, List.not_mem_nil, or_false, not_or] at ht
      show upd (upd e x _) d _ t = e t
      rw [upd_ne ht.1, upd_ne ht.2]
    · cases hs
  | callv d x args =>
    simp only [step] at hs ⊢
    rw [ev_loc (x := x) fun t ht => h t (by simp [nmX, ht]), evs_loc fun t ht => h t (by simp [nmX, ht])]
    split at hs
    case h_2 => cases hs
    rename_i f fs cs e1
    try rw [e1]
    try simp only at hs
    try simp only
    split at hs
    · rename_i v H' hc; cases hs; try rw [hc]
      refine ⟨by simp only [wrX]; rw [← mrg_setD], fun t ht => ?_⟩
      cases d with
      | none => rfl
      | some d => exact upd_ne (by simpa [wrX, optL] using ht)
    · cases hs
  | mks d e' sz bytes z n =>
    simp only [step] at hs ⊢
    rw [ev_loc h]
    split at hs
    case h_2 => cases hs
    rename_i m e1
    try rw [e1]
    try simp only at hs
    try simp only
    split at hs
    case isFalse => cases hs
    rename_i c1; try rw [if_pos c1]
    split at hs
    case isFalse => cases hs
    rename_i c2; try rw [if_pos c2]
    split at hs
    case isFalse => cases hs
    rename_i c3; try rw [if_pos c3]
    cases hs
    exact ⟨by simp only [wrX]; rw [← mrg_upd], fun t ht => upd_ne (by simpa [wrX] using ht)⟩
  | frz d x =>
    simp only [step] at hs ⊢
    rw [h x (by simp [nmX])]
    split at hs
    case h_2 => cases hs
    rename_i id off len sz e1
    try rw [e1]
    try simp only at hs
    try simp only
    split at hs
    case h_2 => cases hs
    rename_i bx rows h1 h2
    try rw [h1, h2]
    try simp only at hs
    try simp only
    split at hs
    · rename_i l hl; cases hs; try rw [hl]
      exact ⟨by simp only [wrX]; rw [← mrg_upd], fun t ht => upd_ne (by simpa [wrX] using ht)⟩
    · cases hs
  | thw d x =>
    simp only [step] at hs ⊢
    rw [h x (by simp [nmX])]
    split at hs
    · rename_i e' sz rows e1; cases hs; try rw [e1]
      refine ⟨by simp only [wrX]; rw [← mrg_upd2], fun t ht => ?_⟩
      simp only [wrX, List.mem_cons, List.not_mem_nil, or_false, not_or] at ht
      show upd (upd e x _) d _ t = e t
      rw [upd_ne ht.1, upd_ne ht.2]
    · rename_i id off len sz e1; cases hs; try rw [e1]
      refine ⟨?_, fun t ht => ?_⟩
      · simp only [wrX]
        congr 2
        funext t
        simp only [mrg, upd, List.mem_cons, List.not_mem_nil, or_false]
        by_cases h1 : t = d
        · simp [h1]
        · by_cases h2 : t = x
          · subst h2; simp [h1, h t (by simp [nmX])]
          · simp [h1, h2]
      · simp only [wrX, List.mem_cons, List.not_mem_nil, or_false, not_or] at ht
        exact upd_ne ht.1
    · cases hs

theorem mrg_sub {ws ws' : List Nat} {e' : Env} (hsub : ∀ t ∈ ws, t ∈ ws') (h : ∀ t, t ∉ ws → e' t = e t) (h2 : ∀ t ∈ ws', t ∉ ws → e2 t = e t) : mrg ws e' e2 = mrg ws' e' e2 := by
  funext t
  simp only [mrg]
  by_cases h1 : t ∈ ws
  · rw [if_pos h1, if_pos (hsub t h1)]
  · rw [if_neg h1]
    split
    · rename_i h3; rw [h t h1, h2 t h3 h1]
    · rfl

/-- The same for an operation under a guard: what it may write counts as named. -/
theorem iop_loc {call : Callee} {H : Heap} {x : IOp} {s' : St} (hs : iop call ⟨e, H⟩ x = some s') (h : ∀ t ∈ nmI x ++ wrI x, e2 t = e t) :
    iop call ⟨e2, H⟩ x = some ⟨mrg (wrI x) s'.env e2, s'.H⟩ ∧ ∀ t, t ∉ wrI x → s'.env t = e t := by
  cases x with
  | o x => exact step_loc hs fun t ht => h t (by simp only [nmI, List.mem_append]; exact .inl ht)
  | g t want d x =>
    simp only [iop] at hs ⊢
    rw [h t (by simp [nmI])]
    split at hs
    case h_3 => cases hs
    case h_2 =>
      cases hs
      refine ⟨?_, fun u hu => upd_ne (fun e => hu (by simp [wrI, e]))⟩
      congr 2
      rw [mrg_upd (e := e)]
      exact mrg_sub (e := e) (fun t ht => by simp at ht; simp [wrI, ht]) (fun t ht => upd_ne (by simpa using ht)) (fun t ht _ => h t (by simp only [List.mem_append]; exact .inr ht))
    rename_i p e1
    try rw [e1]
    try simp only at hs ⊢
    split at hs
    · rename_i hp
      try rw [if_pos hp]
      obtain ⟨h1, h2⟩ := step_loc hs (e2 := e2) fun t ht => h t (by simp [nmI, ht])
      rw [h1]
      refine ⟨?_, fun t ht => h2 t (fun hh => ht (by simp [wrI, hh]))⟩
      rw [mrg_sub (ws' := wrI (.g t want d x)) (e := e) (fun t ht => by simp [wrI, ht]) h2 (fun t ht _ => h t (by simp only [List.mem_append]; exact .inr ht))]
    · rename_i hp
      try rw [if_neg hp]
      cases hs
      refine ⟨?_, fun u hu => upd_ne (fun e => hu (by simp [wrI, e]))⟩
      congr 2
      rw [mrg_upd (e := e)]
      exact mrg_sub (e := e) (fun t ht => by simp at ht; simp [wrI, ht]) (fun t ht => upd_ne (by simpa using ht)) (fun t ht _ => h t (by simp only [List.mem_append]; exact .inr ht))
end
end Go.Ab
