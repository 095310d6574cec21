/-
  What a reading of an argument says: the argument is a tree in memory, and the tree has the type's form.
  Conditions: the type holds no pointer, map, interface, function or channel.
-/
import Derived.Test.YtnnjmbblpmghfaaGreatB
import Derived.ProofKit
import Derived.Deep.Slices
import Derived.OpenShut
set_option linter.unusedSimpArgs false
set_option linter.unusedVariables false
namespace Go.Ab
def layB (P : Program) : List Field → Nat → Nat → Bool
  | [], o, n => o == n
  | f :: fs, o, n => f.offset == o && layB P fs (o + P.cellsOf f.type) n
def pureT (P : Program) : Nat → TypeId → Bool
  | 0, _ => false
  | n + 1, t => match P.underlying t with
    | some .bool => true
    | some (.int _) => true
    | some .string => true
    | some (.slice e) => pureT P n e && decide (0 < P.cellsOf e)
    | some (.struct fs) => layB P fs.toList 0 (P.cellsOf t) && fs.toList.all fun f => pureT P n f.type
    | some (.array m e) => P.cellsOf t == m * P.cellsOf e && pureT P n e
    | _ => false
def HasTy (P : Program) : Nat → TypeId → List D → Prop
  | 0, _, _ => False
  | n + 1, t, xs => match P.underlying t with
    | some .bool => ∃ b, xs = [.b b]
    | some (.int k) => ∃ x, xs = [.i k x] ∧ (Lit.int k x).wf = true
    | some .string => ∃ s, xs = [.s s]
    | some (.slice e) => ∃ rows : List (List D), xs = [.l (P.cellsOf e) rows] ∧ rows.length < 2 ^ 63 ∧ ∀ r ∈ rows, HasTy P n e r
    | some (.struct fs) => ∃ parts : List (List D), xs = parts.flatten ∧ All2 (fun f p => HasTy P n f.type p) fs.toList parts
    | some (.array m e) => ∃ parts : List (List D), xs = parts.flatten ∧ parts.length = m ∧ ∀ p ∈ parts, HasTy P n e p
    | _ => False
theorem mapM_all2 {α β : Type} {f : α → Option β} : ∀ {l : List α} {r : List β}, l.mapM f = some r → All2 (fun a b => f a = some b) l r
  | [], r, h => by simp at h; subst h; exact .nil
  | x :: l, r, h => by
    rw [List.mapM_cons] at h
    cases hx : f x with
    | none => rw [hx] at h; cases h
    | some y =>
      rw [hx] at h
      cases hl : l.mapM f with
      | none => rw [hl] at h; cases h
      | some ys =>
        rw [hl] at h
        cases h
        exact .cons hx (mapM_all2 hl)
theorem all2_choose {α β γ : Type} {T : α → β → Prop} {Q : α → γ → Prop} {l : List α} {r : List β} (h : All2 T l r) (hq : ∀ a b, a ∈ l → T a b → ∃ c, Q a c) : ∃ cs, All2 Q l cs := by
  induction h with
  | nil => exact ⟨[], .nil⟩
  | cons hab _ ih =>
    obtain ⟨c, hc⟩ := hq _ _ (by simp) hab
    obtain ⟨cs, hcs⟩ := ih fun a b ha => hq a b (by simp [ha])
    exact ⟨c :: cs, .cons hc hcs⟩
theorem lay_parts {R : D → Value → Prop} {P : Program} {cs : List Value} : ∀ {fs : List Field} {parts : List (List D)} {o : Nat}, layB P fs o cs.length = true → All2 (fun (f : Field) p => All2 R p ((cs.drop f.offset).take (P.cellsOf f.type))) fs parts → All2 R parts.flatten (cs.drop o)
  | [], parts, o, hl, h => by
    cases h
    simp only [layB, beq_iff_eq] at hl
    rw [hl, List.drop_length]
    exact .nil
  | f :: fs, parts, o, hl, h => by
    cases h with
    | cons h1 h2 =>
      simp only [layB, Bool.and_eq_true, beq_iff_eq] at hl
      have ih := lay_parts hl.2 h2
      rw [List.flatten_cons]
      have e : cs.drop o = (cs.drop o).take (P.cellsOf f.type) ++ cs.drop (o + P.cellsOf f.type) := by
        rw [← List.drop_drop, List.take_append_drop]
      rw [e]
      rw [hl.1] at h1
      exact h1.app ih
theorem arr_parts {R : D → Value → Prop} {sz : Nat} {cs : List Value} : ∀ {m o : Nat} {parts : List (List D)}, cs.length = (o + m) * sz → All2 (fun (i : Nat) p => All2 R p ((cs.drop (i * sz)).take sz)) (List.range' o m) parts → All2 R parts.flatten (cs.drop (o * sz))
  | 0, o, parts, hl, h => by
    cases h
    rw [Nat.add_zero] at hl
    rw [← hl, List.drop_length]
    exact .nil
  | m + 1, o, parts, hl, h => by
    rw [List.range'_succ] at h
    cases h with
    | cons h1 h2 =>
      have ih := arr_parts (by rw [hl]; congr 1; omega) h2
      rw [List.flatten_cons]
      have e : cs.drop (o * sz) = (cs.drop (o * sz)).take sz ++ cs.drop ((o + 1) * sz) := by
        rw [Nat.add_mul, Nat.one_mul, ← List.drop_drop, List.take_append_drop]
      rw [e]
      exact h1.app ih
theorem flat_cells {Q : Nat → D → Prop} {sz : Nat} : ∀ {rs : List (List D)} {i0 : Nat}, (∀ (i : Nat) r, rs[i]? = some r → r.length = sz ∧ ∀ (j : Nat) x, r[j]? = some x → Q ((i0 + i) * sz + j) x) → ∀ (k : Nat) x, rs.flatten[k]? = some x → Q (i0 * sz + k) x
  | [], i0, h, k, x, hk => by simp at hk
  | r :: rs, i0, h, k, x, hk => by
    obtain ⟨h1, h2⟩ := h 0 r rfl
    rw [List.flatten_cons] at hk
    by_cases hlt : k < r.length
    · rw [List.getElem?_append_left hlt] at hk
      have := h2 k x hk
      simpa using this
    · rw [List.getElem?_append_right (by omega)] at hk
      have ih := flat_cells (Q := Q) (rs := rs) (i0 := i0 + 1) (fun i r' hr => by
        have := h (i + 1) r' (by simpa using hr)
        refine ⟨this.1, fun j x hj => ?_⟩
        have h3 := this.2 j x hj
        rwa [show i0 + (i + 1) = i0 + 1 + i by omega] at h3) (k - r.length) x hk
      rw [h1] at ih hlt
      rwa [show (i0 + 1) * sz + (k - sz) = i0 * sz + k by rw [Nat.add_mul, Nat.one_mul]; omega] at ih
abbrev Wm (W : World) : Mem := fun b o => W.cell? ⟨b, o, none⟩
theorem choose_list {β : Type} {Q : Nat → β → Prop} : ∀ {n : Nat}, (∀ i, i < n → ∃ p, Q i p) → ∃ ps : List β, ps.length = n ∧ ∀ (i : Nat) p, ps[i]? = some p → Q i p
  | 0, _ => ⟨[], rfl, fun i p h => by simp at h⟩
  | n + 1, h => by
    obtain ⟨ps, h1, h2⟩ := choose_list (n := n) fun i hi => h i (by omega)
    obtain ⟨p, hp⟩ := h n (by omega)
    refine ⟨ps ++ [p], by simp [h1], fun i q hq => ?_⟩
    by_cases hi : i < n
    · rw [List.getElem?_append_left (by omega)] at hq; exact h2 i q hq
    · have hlt := (List.getElem?_eq_some_iff.1 hq).1
      simp only [List.length_append, List.length_cons, List.length_nil] at hlt
      have : i = n := by omega
      subst this
      rw [← h1, List.getElem?_concat_length] at hq
      cases hq; exact hp
theorem All2.length {α β : Type} {R : α → β → Prop} {l : List α} {r : List β} (h : All2 R l r) : l.length = r.length := h.len
theorem All2.and_left {α β : Type} {R S : α → β → Prop} {l : List α} {r : List β} (h : All2 (fun a b => R a b ∧ S a b) l r) : All2 R l r := h.mono fun _ _ _ h => h.1
theorem All2.and_right {α β : Type} {R S : α → β → Prop} {l : List α} {r : List β} (h : All2 (fun a b => R a b ∧ S a b) l r) : All2 S l r := h.mono fun _ _ _ h => h.2
theorem All2.forall_right {α β : Type} {Q : β → Prop} {l : List α} {r : List β} (h : All2 (fun _ b => Q b) l r) : ∀ b ∈ r, Q b := by
  induction h with
  | nil => intro b hb; cases hb
  | cons h _ ih =>
    intro b hb
    rcases List.mem_cons.1 hb with rfl | hb
    · exact h
    · exact ih b hb
theorem range_all2 {β : Type} {R : Nat → β → Prop} {n : Nat} {r : List β} (h : All2 R (List.range n) r) : r.length = n ∧ ∀ (i : Nat) b, r[i]? = some b → R i b := by
  have hl := h.len
  rw [List.length_range] at hl
  refine ⟨hl.symm, fun i b hb => ?_⟩
  obtain ⟨a, ha, hr⟩ := h.get' i b hb
  have hlt := (List.getElem?_eq_some_iff.1 hb).1
  rw [List.getElem?_range (by omega)] at ha
  cases ha
  exact hr
theorem add_add' (a : Addr) (i j : Nat) : (a.add i).add j = a.add (i + j) := by
  obtain ⟨b, o, sp⟩ := a
  by_cases hi : i = 0
  · subst hi; simp [Addr.add]
  · by_cases hj : j = 0
    · subst hj; simp [Addr.add, hi]
    · simp [Addr.add, hi, hj, Nat.add_assoc]
theorem add_pl (b off k : Nat) : Addr.add ⟨b, off, none⟩ k = ⟨b, off + k, none⟩ := by
  by_cases hk : k = 0
  · subst hk; simp [Addr.add]
  · simp [Addr.add, hk]
open Go.Deep in
theorem trod_rep {H : Type} {enc : TypeId × Value → H} {P : Program} {W : World} {base : Nat} {sp : Nat → Bool} {hd : Bool} : ∀ (n fuel : Nat) (t : TypeId) (cs : List Value) (y : DataW H × List MemPlace), pureT P n t = true → DataW.trod enc P W base sp hd fuel t cs = some y → ∃ xs, HasTy P n t xs ∧ All2 (RepD (Wm W)) xs cs
  | 0, _, _, _, _, hp, _ => by cases hp
  | n + 1, fuel, t, cs, y, hp, h => by
    have IH := fun fuel t cs y hp h => trod_rep (H := H) (enc := enc) (P := P) (W := W) (base := base) (sp := sp) (hd := hd) n fuel t cs y hp h
    simp only [pureT] at hp
    simp only [HasTy]
    cases hu : P.underlying t with
    | none => rw [hu] at hp; cases hp
    | some u =>
      rw [hu] at hp
      cases u with
      | bool =>
        obtain ⟨b, rfl, _⟩ := DataW.trod_bool hu h
        exact ⟨_, ⟨b, rfl⟩, .cons (.b b) .nil⟩
      | int k =>
        obtain ⟨x, rfl, _, hw⟩ := DataW.trod_int hu h
        exact ⟨_, ⟨x, rfl, hw⟩, .cons (.i k x) .nil⟩
      | string =>
        obtain ⟨s, rfl, _⟩ := DataW.trod_string hu h
        exact ⟨_, ⟨s, rfl⟩, .cons (.s s) .nil⟩
      | slice e =>
        simp only [Bool.and_eq_true, decide_eq_true_eq] at hp
        rcases open_slice hu h with ⟨rfl, _⟩ | ⟨a, len, cap, m, k, D', Pl, rfl, hb, hl, hm, hmm, _, hx⟩
        · exact ⟨_, ⟨[], rfl, by simp, fun r hr => by cases hr⟩, .cons (.l0 _ _ _) .nil⟩
        · have hlm : len ≤ m := by rw [hmm]; split <;> omega
          obtain ⟨rows, hr1, hr2⟩ := choose_list (n := len) (Q := fun i r => HasTy P n e r ∧ ∃ cs', W.cells? base (a.add (i * P.cellsOf e)) (P.cellsOf e) = some cs' ∧ All2 (RepD (Wm W)) r cs') fun i hi => by
            obtain ⟨cs', h1, h2⟩ := hx i (by omega)
            obtain ⟨xs, h3, h4⟩ := IH _ _ _ _ hp.1 h2
            exact ⟨xs, h3, cs', h1, h4⟩
          have hmax : maxLen = 2 ^ 63 - 1 := rfl
          refine ⟨_, ⟨rows, rfl, by omega, fun r hr => ?_⟩, .cons ?_ .nil⟩
          · obtain ⟨i, hi⟩ := List.getElem?_of_mem hr
            exact (hr2 i r hi).1
          · by_cases h0 : rows = []
            · subst h0
              simp only [List.length_nil] at hr1
              subst hr1
              exact .l0 _ _ _
            · have hpos : 0 < len := by
                rw [← hr1]; exact List.length_pos_iff.2 h0
              -- each row's cells
              have hcell : ∀ (i : Nat) r, rows[i]? = some r → r.length = P.cellsOf e ∧ ∀ (j : Nat) x, r[j]? = some x → ∃ v, W.cell? (a.add ((0 + i) * P.cellsOf e + j)) = some v ∧ RepD (Wm W) x v := by
                intro i r hir
                obtain ⟨_, cs', hc, ha⟩ := hr2 i r hir
                unfold World.cells? at hc
                split at hc
                · obtain ⟨q1, q2⟩ := range_all2 (mapM_all2 hc)
                  refine ⟨by rw [ha.len, q1], fun j x hj => ?_⟩
                  obtain ⟨v, hv, hrep⟩ := ha.get j x hj
                  have := q2 j v hv
                  rw [add_add', show i * P.cellsOf e + j = (0 + i) * P.cellsOf e + j by rw [Nat.zero_add]] at this
                  exact ⟨v, this, hrep⟩
                · cases hc
              have hflat := flat_cells (Q := fun k x => ∃ v, W.cell? (a.add k) = some v ∧ RepD (Wm W) x v) (sz := P.cellsOf e) (rs := rows) (i0 := 0) hcell
              obtain ⟨b, off, spot⟩ := a
              have hspot : spot = none := by
                obtain ⟨r, hr⟩ : ∃ r, rows[0]? = some r := ⟨rows[0]'(by omega), List.getElem?_eq_getElem _⟩
                obtain ⟨g1, g2⟩ := hcell 0 r hr
                obtain ⟨x, hx0⟩ : ∃ x, r[0]? = some x := ⟨r[0]'(by omega), List.getElem?_eq_getElem _⟩
                obtain ⟨v, hv, _⟩ := g2 0 x hx0
                have := World.cell?_spot hv
                by_cases hz : (0 + 0) * P.cellsOf e + 0 = 0
                · rw [hz] at this; simpa [Addr.add] using this
                · exact (hz (by simp)).elim
              subst hspot
              rw [show len = rows.length from hr1.symm]
              refine .l _ rows b off cap (fun k => (W.cell? ⟨b, off + k, none⟩).getD default) h0 (by omega) (fun r hr => ?_) (fun k x hk => ?_) (fun k x hk => ?_)
              · obtain ⟨i, hi⟩ := List.getElem?_of_mem hr
                exact (hcell i r hi).1
              · obtain ⟨v, hv, _⟩ := hflat k x hk
                simp only [Nat.zero_mul, Nat.zero_add, add_pl] at hv
                show W.cell? ⟨b, off + k, none⟩ = _
                rw [hv]; rfl
              · obtain ⟨v, hv, hrep⟩ := hflat k x hk
                simp only [Nat.zero_mul, Nat.zero_add, add_pl] at hv
                rw [hv]; exact hrep
      | struct fs =>
        simp only [Bool.and_eq_true, List.all_eq_true] at hp
        obtain ⟨ys, k, _, _, hlen, hyl, hy⟩ := DataW.trod_struct hu h
        obtain ⟨parts, q1, q2⟩ := choose_list (n := fs.size) (Q := fun i p => ∀ f, fs[i]? = some f → HasTy P n f.type p ∧ All2 (RepD (Wm W)) p ((cs.drop f.offset).take (P.cellsOf f.type))) fun i hi => by
          have hf : fs[i]? = some fs[i] := Array.getElem?_eq_getElem hi
          have h1 := hy i fs[i] hf
          obtain ⟨y', hy'⟩ : ∃ y', ys[i]? = some y' := ⟨ys[i]'(by omega), List.getElem?_eq_getElem _⟩
          rw [hy'] at h1
          obtain ⟨xs, g1, g2⟩ := IH _ _ _ _ (hp.2 fs[i] (by simp)) h1
          exact ⟨xs, fun f hf' => by rw [hf] at hf'; cases hf'; exact ⟨g1, g2⟩⟩
        have hall : All2 (fun (f : Field) p => HasTy P n f.type p ∧ All2 (RepD (Wm W)) p ((cs.drop f.offset).take (P.cellsOf f.type))) fs.toList parts :=
          All2.of_get (by simp [q1]) fun i f p hf hp' => q2 i p hp' f (by simpa using hf)
        refine ⟨_, ⟨parts, rfl, hall.and_left⟩, ?_⟩
        have := lay_parts (cs := cs) (o := 0) (by rw [hlen]; exact hp.1) hall.and_right
        simpa using this
      | array m e =>
        simp only [Bool.and_eq_true, beq_iff_eq] at hp
        obtain ⟨ys, k, _, _, hlen, hyl, hy⟩ := DataW.trod_array hu h
        obtain ⟨parts, q1, q2⟩ := choose_list (n := m) (Q := fun i p => HasTy P n e p ∧ All2 (RepD (Wm W)) p ((cs.drop (i * P.cellsOf e)).take (P.cellsOf e))) fun i hi => by
          have h1 := hy i hi
          obtain ⟨y', hy'⟩ : ∃ y', ys[i]? = some y' := ⟨ys[i]'(by omega), List.getElem?_eq_getElem _⟩
          rw [hy'] at h1
          obtain ⟨xs, g1, g2⟩ := IH _ _ _ _ hp.2 h1
          exact ⟨xs, g1, g2⟩
        have hall : All2 (fun (i : Nat) p => All2 (RepD (Wm W)) p ((cs.drop (i * P.cellsOf e)).take (P.cellsOf e))) (List.range' 0 m) parts := by
          refine All2.of_get (by simp [q1]) fun i a p ha hp' => ?_
          have hlt := (List.getElem?_eq_some_iff.1 hp').1
          have : a = i := by
            rw [List.getElem?_range' (by omega)] at ha
            simp at ha; exact ha.symm
          subst this
          exact (q2 a p hp').2
        refine ⟨_, ⟨parts, rfl, q1, fun p hp' => ?_⟩, ?_⟩
        · obtain ⟨i, hi⟩ := List.getElem?_of_mem hp'
          exact (q2 i p hi).1
        · have := arr_parts (cs := cs) (o := 0) (m := m) (by rw [hlen, hp.1]; simp) hall
          simpa using this
      | _ => cases hp
end Go.Ab
