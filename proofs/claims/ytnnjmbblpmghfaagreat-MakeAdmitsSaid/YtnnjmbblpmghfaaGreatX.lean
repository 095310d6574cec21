/-
  Regions in any order: what 'runA' runs comes out so in each order.
  Conditions: none.
-/
import Derived.Test.YtnnjmbblpmghfaaGreatO
namespace Go.Ab
theorem okE_get {items : List (IOp × Bool × List (List Nat))} (h : okE items = true) : ∀ (i : Nat) (x : IOp) (ef : Bool) (adm : List (List Nat)), items[i]? = some (x, ef, adm) → adm ≠ [] ∧ (hsI x = false → ef = false) := by
  intro i x ef adm hx
  have := List.all_eq_true.1 h _ (List.mem_of_getElem? hx)
  simp only [Bool.and_eq_true, Bool.not_eq_true', List.isEmpty_eq_false_iff, Bool.or_eq_true] at this
  refine ⟨this.1, fun hs => ?_⟩
  rcases this.2 with h | h
  · rw [hs] at h; cases h
  · exact h
theorem look_app {A B : List (List Nat × Heap)} {F : List Nat} {h : Heap} (hl : lookA A F = some h) : lookA (A ++ B) F = some h := by
  induction A with
  | nil => simp [lookA] at hl
  | cons p r ih =>
    obtain ⟨G, g⟩ := p
    simp only [List.cons_append, lookA] at hl ⊢
    split at hl
    · rename_i e; rw [if_pos e]; exact hl
    · rename_i e; rw [if_neg e]; exact ih hl
theorem look_new {A : List (List Nat × Heap)} {F : List Nat} {h : Heap} (hl : lookA A F = none) : lookA (A ++ [(F, h)]) F = some h := by
  induction A with
  | nil => simp [lookA]
  | cons p r ih =>
    obtain ⟨G, g⟩ := p
    simp only [List.cons_append, lookA] at hl ⊢
    split at hl
    · cases hl
    · rename_i e; rw [if_neg e]; exact ih hl
theorem admOne_ext {l : List Nat} {i : Nat} {ef : Bool} {F : List Nat} {h : Heap} {s1 : St} {A A' : List (List Nat × Heap)} (hs : admOne l i ef F h s1 A = some A') :
    (∃ B, A' = A ++ B) ∧ (ef = true → lookA A' (insF l F i) = some s1.H) ∧ (ef = false → s1.H = h) := by
  unfold admOne at hs
  split at hs
  · rename_i he
    split at hs
    · rename_i hn
      cases hs
      exact ⟨⟨_, rfl⟩, fun _ => look_new hn, fun h' => by rw [he] at h'; cases h'⟩
    · rename_i h2 hn
      split at hs
      · rename_i e
        cases hs
        exact ⟨⟨[], by simp⟩, fun _ => by rw [hn, e], fun h' => by rw [he] at h'; cases h'⟩
      · cases hs
  · rename_i he
    split at hs
    · rename_i e
      cases hs
      exact ⟨⟨[], by simp⟩, fun h' => (he h').elim, fun _ => e⟩
    · cases hs
/-- What holds of an operation in each memory that it may meet. -/
def Met (call : Callee) (e e1 : Env) (l : List Nat) (i : Nat) (ef : Bool) (x : IOp) (A : List (List Nat × Heap)) (F : List Nat) : Prop :=
  ∃ h h', lookA A F = some h ∧ iop call ⟨e, h⟩ x = some ⟨e1, h'⟩ ∧ (ef = true → lookA A (insF l F i) = some h') ∧ (ef = false → h' = h)
theorem Met.app {call : Callee} {e e1 : Env} {l : List Nat} {i : Nat} {ef : Bool} {x : IOp} {A : List (List Nat × Heap)} {F : List Nat} (h : Met call e e1 l i ef x A F) (B : List (List Nat × Heap)) : Met call e e1 l i ef x (A ++ B) F := by
  obtain ⟨h1, h2, a, b, c, d⟩ := h
  exact ⟨h1, h2, look_app a, b, fun he => look_app (c he), d⟩
theorem ph1_ext {call : Callee} {l : List Nat} : ∀ {ys : List (IOp × Bool × List (List Nat))} {i : Nat} {e e' : Env} {A A' : List (List Nat × Heap)} {T T' : List Td}, ph1 call l i e A T ys = some (e', A', T') →
    (∃ B, A' = A ++ B) ∧ (∀ t ∈ T, t ∈ T') ∧ ∃ es : Nat → Env, es i = e ∧ es (i + ys.length) = e' ∧ ∀ (j : Nat) (x : IOp) (ef : Bool) (adm : List (List Nat)), ys[j]? = some (x, ef, adm) →
      ∃ F Fs, adm = F :: Fs ∧ Met call (es (i + j)) (es (i + j + 1)) l (i + j) ef x A' F ∧ ∀ G ∈ Fs, (i + j, x, ef, G, es (i + j), es (i + j + 1)) ∈ T'
  | [], i, e, e', A, A', T, T', hs => by
    simp only [ph1, Option.some.injEq, Prod.mk.injEq] at hs
    obtain ⟨rfl, rfl, rfl⟩ := hs
    exact ⟨⟨[], by simp⟩, fun t h => h, fun _ => e, rfl, rfl, fun j x ef adm hj => by simp at hj⟩
  | (x, ef, []) :: ys, i, e, e', A, A', T, T', hs => by simp only [ph1] at hs; cases hs
  | (x, ef, F :: Fs) :: ys, i, e, e', A, A', T, T', hs => by
    simp only [ph1] at hs
    split at hs
    · cases hs
    rename_i h hl
    split at hs
    · cases hs
    rename_i s1 h1
    split at hs
    · cases hs
    rename_i A1 ha
    obtain ⟨⟨B1, rfl⟩, k1, k2⟩ := admOne_ext ha
    obtain ⟨⟨B3, rfl⟩, t1, es, q1, q2, q3⟩ := ph1_ext hs
    refine ⟨⟨B1 ++ B3, by simp only [List.append_assoc]⟩, fun t ht => t1 t (by simp [ht]), fun n => if n ≤ i then e else es n, by simp, ?_, ?_⟩
    · have : ¬ (i + (ys.length + 1) ≤ i) := by omega
      simp only [List.length_cons, this, if_false]
      rw [show i + (ys.length + 1) = i + 1 + ys.length by omega]; exact q2
    · intro j x' ef' adm' hj
      cases j with
      | zero =>
        simp only [List.getElem?_cons_zero, Option.some.injEq, Prod.mk.injEq] at hj
        obtain ⟨rfl, rfl, rfl⟩ := hj
        have e1 : ¬ (i + 0 + 1 ≤ i) := by omega
        have e2 : i + 0 ≤ i := by omega
        have e3 : es (i + 0 + 1) = s1.env := q1
        simp only [e1, e2, if_true, if_false, e3]
        refine ⟨F, Fs, rfl, Met.app ⟨h, s1.H, look_app hl, h1, k1, k2⟩ B3, fun G hG => t1 _ ?_⟩
        exact List.mem_append.2 (.inr (List.mem_map.2 ⟨G, hG, rfl⟩))
      | succ j =>
        simp only [List.getElem?_cons_succ] at hj
        have e1 : ¬ (i + (j + 1) + 1 ≤ i) := by omega
        have e2 : ¬ (i + (j + 1) ≤ i) := by omega
        simp only [e1, e2, if_false]
        rw [show i + (j + 1) = i + 1 + j by omega]
        exact q3 j x' ef' adm' hj
def MtT (call : Callee) (l : List Nat) (A : List (List Nat × Heap)) (t : Td) : Prop := Met call t.2.2.2.2.1 t.2.2.2.2.2 l t.1 t.2.2.1 t.2.1 A t.2.2.2.1
theorem tdGo_ext {call : Callee} {l : List Nat} : ∀ {T : List Td} {A A' : List (List Nat × Heap)} {R R' : List Td}, tdGo call l T A R = some (A', R') →
    (∃ B, A' = A ++ B) ∧ (∀ t ∈ R, t ∈ R') ∧ ∀ t ∈ T, t ∈ R' ∨ MtT call l A' t
  | [], A, A', R, R', hs => by
    simp only [tdGo, Option.some.injEq, Prod.mk.injEq] at hs
    obtain ⟨rfl, rfl⟩ := hs
    exact ⟨⟨[], by simp⟩, fun t h => h, fun t ht => by cases ht⟩
  | (i, x, ef, F, e, e1) :: T, A, A', R, R', hs => by
    simp only [tdGo] at hs
    split at hs
    · obtain ⟨k1, k2, k3⟩ := tdGo_ext hs
      refine ⟨k1, fun t ht => k2 t (by simp [ht]), fun t ht => ?_⟩
      rcases List.mem_cons.1 ht with rfl | ht
      · exact .inl (k2 _ (by simp))
      · exact k3 t ht
    rename_i h hl
    split at hs
    · cases hs
    rename_i s1 h1
    split at hs
    case isFalse => cases hs
    rename_i he
    split at hs
    · cases hs
    rename_i A1 ha
    obtain ⟨⟨B1, rfl⟩, k1, k2⟩ := admOne_ext ha
    obtain ⟨⟨B2, rfl⟩, k3, k4⟩ := tdGo_ext hs
    refine ⟨⟨B1 ++ B2, by rw [List.append_assoc]⟩, k3, fun t ht => ?_⟩
    rcases List.mem_cons.1 ht with rfl | ht
    · exact .inr (Met.app ⟨h, s1.H, look_app hl, by rw [h1, ← he], k1, k2⟩ B2)
    · exact k4 t ht
theorem rounds_ext {call : Callee} {l : List Nat} : ∀ {n : Nat} {T : List Td} {A A' : List (List Nat × Heap)}, rounds call l n T A = some A' → (∃ B, A' = A ++ B) ∧ ∀ t ∈ T, MtT call l A' t
  | n, [], A, A', hs => by
    have : A = A' := by cases n <;> (simp only [rounds, Option.some.injEq] at hs; exact hs)
    subst this
    exact ⟨⟨[], by simp⟩, fun t ht => by cases ht⟩
  | 0, t :: T, A, A', hs => by simp only [rounds] at hs; cases hs
  | n + 1, t :: T, A, A', hs => by
    simp only [rounds] at hs
    split at hs
    · cases hs
    rename_i A1 R h1
    obtain ⟨⟨B1, rfl⟩, k1, k2⟩ := tdGo_ext h1
    obtain ⟨⟨B2, rfl⟩, k3⟩ := rounds_ext hs
    refine ⟨⟨B1 ++ B2, by rw [List.append_assoc]⟩, fun u hu => ?_⟩
    rcases k2 u hu with h | h
    · exact k3 u h
    · exact Met.app h B2
theorem runA_DR {call : Callee} {items : List (IOp × Bool × List (List Nat))} {s s' : St} (hok : okE items = true) (hs : runA call (effs items) s items = some s') : DR call items s s' := by
  unfold runA at hs
  split at hs
  · cases hs
  rename_i e A T hc
  split at hs
  · cases hs
  rename_i A' hr
  split at hs
  · cases hs
  rename_i h hl
  cases hs
  obtain ⟨⟨B, rfl⟩, _, es, q1, q2, q3⟩ := ph1_ext hc
  obtain ⟨⟨B2, rfl⟩, k3⟩ := rounds_ext hr
  refine ⟨es, fun F => (lookA ([([], s.H)] ++ B ++ B2) F).getD s.H, q1, by simp [lookA], by simpa using q2, by simp only [hl]; rfl, ?_⟩
  intro i x ef adm hx
  obtain ⟨F0, Fs, rfl, k1, k2⟩ := q3 i x ef adm hx
  rw [Nat.zero_add] at k1 k2
  have hM : ∀ F ∈ F0 :: Fs, Met call (es i) (es (i + 1)) (effs items) i ef x ([([], s.H)] ++ B ++ B2) F := by
    intro F hF
    rcases List.mem_cons.1 hF with rfl | hF
    · exact k1.app B2
    · exact k3 _ (k2 F hF)
  constructor
  · intro hq
    have he := (okE_get hok i x ef _ hx).2 hq
    obtain ⟨h1, h2, a, b, c, d⟩ := hM F0 (by simp)
    rw [d he] at b
    exact (iop_quiet hq b s.H).2
  · intro hq F hF
    obtain ⟨h1, h2, a, b, c, d⟩ := hM F hF
    cases ef with
    | true =>
      have c' := c rfl
      simp only [a, Option.getD_some, b, if_true, c']
    | false =>
      have d' := d rfl
      rw [d'] at b
      simp only [a, Option.getD_some, b, Bool.false_eq_true, if_false]
end Go.Ab
