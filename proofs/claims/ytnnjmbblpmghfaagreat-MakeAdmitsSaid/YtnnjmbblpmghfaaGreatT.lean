/-
  What is left behind a scope.
  Conditions: none.
-/
import Derived.Test.YtnnjmbblpmghfaaGreatB
set_option linter.unusedSimpArgs false
set_option linter.unusedVariables false
namespace Go.Ab
section
variable {P : Program} {fx : Fx} {g : Gh} {S : Nat → Option Nat} {s : St} {a : Act} {w : World}

theorem RepV.cut {M : Mem} {n : Nat} {y : V} {u : Value} (r : RepV ⟨g.β, M, g.Ow⟩ y u) (hb : bdV y ≤ n) (hnt : ∀ xs, y ≠ .tup xs) {Ow : Nat → Nat → Option Nat} : RepV ⟨fun i => if i < n then g.β i else none, M, Ow⟩ y u := by
  have key : ∀ {x : C} {u : Value}, bd x ≤ n → RepC ⟨g.β, M, g.Ow⟩ x u → RepC ⟨fun i => if i < n then g.β i else none, M, Ow⟩ x u := by
    intro x u hx r
    exact RepC.mono' (g := ⟨g.β, M, g.Ow⟩) (g' := ⟨fun i => if i < n then g.β i else none, M, Ow⟩) n (fun i b hi hb => by show (if i < n then g.β i else none) = some b; rw [if_pos hi]; exact hb) (fun _ _ _ h => h) hx r
  have hA : ∀ {c : C} {xs : List C}, c ∈ xs → bd c ≤ bdA xs := by
    intro c xs
    induction xs with
    | nil => intro h; simp at h
    | cons y ys ih =>
      intro h
      simp only [bdA]
      rcases List.mem_cons.1 h with rfl | h
      · omega
      · have := ih h; omega
  cases y with
  | c x =>
    by_cases hu : x = .undef
    · subst hu; trivial
    · exact RepC.toV (key hb (RepV.toC hu r))
  | agg xs =>
    obtain ⟨us, e, h⟩ := r
    exact ⟨us, e, h.mono fun c v hc hr => ⟨key (by have := hA hc; simp only [bdV] at hb; omega) hr.1, hr.2⟩⟩
  | tup xs => exact absurd rfl (hnt xs)
theorem Rep1.cut {M : Mem} {n : Nat} {y : V} {u : Value} (r : Rep1 ⟨g.β, M, g.Ow⟩ y u) (hb : bdV y ≤ n) {Ow : Nat → Nat → Option Nat} : Rep1 ⟨fun i => if i < n then g.β i else none, M, Ow⟩ y u := by
  cases y with
  | c x =>
    refine ⟨?_, r.2⟩
    exact RepC.mono' (g := ⟨g.β, M, g.Ow⟩) (g' := ⟨fun i => if i < n then g.β i else none, M, Ow⟩) n (fun i b hi hb => by show (if i < n then g.β i else none) = some b; rw [if_pos hi]; exact hb) (fun _ _ _ h => h) hb r.1
  | agg xs => exact RepV.cut (y := .agg xs) r hb (by simp)
  | tup => exact r.elim
theorem Rep1.nt {g : Gh} {y : V} {u : Value} (r : Rep1 g y u) : ∀ xs, y ≠ .tup xs := by intro xs e; subst e; exact r


theorem keepE_get {e : Env} : ∀ {ts : List Nat} {t : Nat}, (t ∈ ts → keepE e ts t = e t) ∧ (t ∉ ts → keepE e ts t = .c .undef)
  | [], t => ⟨fun h => by simp at h, fun _ => rfl⟩
  | u :: us, t => by
    obtain ⟨h1, h2⟩ := keepE_get (e := e) (ts := us) (t := t)
    constructor
    · intro h
      simp only [keepE, upd]
      split
      · rename_i e1; rw [e1]
      · rename_i e1; exact h1 ((List.mem_cons.1 h).resolve_left e1)
    · intro h
      simp only [List.mem_cons, not_or] at h
      simp only [keepE, upd, if_neg h.1]
      exact h2 h.2
theorem bdsE_get {e : Env} : ∀ {ts : List Nat} {t : Nat}, t ∈ ts → bdV (e t) ≤ bdsE e ts
  | u :: us, t, h => by
    simp only [bdsE]
    rcases List.mem_cons.1 h with rfl | h
    · omega
    · have := bdsE_get (e := e) h; omega
theorem noTup_get {e : Env} : ∀ {ts : List Nat} {t : Nat}, noTup e ts = true → t ∈ ts → ∀ xs, e t ≠ .tup xs
  | u :: us, t, hn, h => by
    simp only [noTup, Bool.and_eq_true, Bool.not_eq_true'] at hn
    rcases List.mem_cons.1 h with rfl | h
    · intro xs hx; rw [hx] at hn; simp [isTup] at hn
    · exact noTup_get hn.2 h

theorem SimG.kill (h : SimG fx g S s a w) {ts : List Nat} : Sim fx ⟨keepE s.env ts, s.H⟩ a w := by
  have hS2 : ∀ t b, (if t ∈ ts then S t else none) = some b → t ∈ ts ∧ S t = some b := by
    intro i b hi
    split at hi
    · rename_i hl; exact ⟨hl, hi⟩
    · cases hi
  refine ⟨g, fun t => if t ∈ ts then S t else none, ⟨h.h, ⟨?_, ?_, ?_, ?_, ?_, ?_⟩, h.sz, h.defs, h.same, h.n0, h.M, h.keep, h.βold, h.βT, h.OwT, ?_⟩⟩
  · intro t
    show RepV _ (keepE s.env ts t) _
    by_cases ht : t ∈ ts
    · rw [keepE_get.1 ht]; exact h.e.rep t
    · rw [keepE_get.2 ht]; trivial
  · intro t
    show OwnV w g.M (if t ∈ ts then S t else none) (keepE s.env ts t) _
    by_cases ht : t ∈ ts
    · rw [keepE_get.1 ht, if_pos ht]; exact h.e.own t
    · rw [keepE_get.2 ht]; exact OwnV.of_noOwn trivial
  · intro t u b ht hu; exact h.e.inj t u b (hS2 t b ht).2 (hS2 u b hu).2
  · intro t i b ht hi; exact h.e.β t i b (hS2 t b ht).2 hi
  · intro t i o b ht hi; exact h.e.Ow t i o b (hS2 t b ht).2 hi
  · intro t b ht; exact h.e.lt t b (hS2 t b ht).2
  · intro t b ht; exact h.ST t b (hS2 t b ht).2

theorem SimG.cut (h : SimG fx g S s a w) {cut : Bool} {ts : List Nat} {n : Nat} (hn : fx.n0 ≤ n) {s2 : St} (hk : keepS cut ts n s = some s2) : Sim fx s2 a w := by
  unfold keepS at hk
  split at hk
  · cases hk; exact h.kill
  split at hk
  case isFalse => cases hk
  rename_i hnt
  split at hk
  case isFalse => cases hk
  rename_i hb
  cases hk
  have hβ2 : ∀ i b, (if i < n then g.β i else none) = some b → i < n ∧ g.β i = some b := by
    intro i b hi
    split at hi
    · rename_i hl; exact ⟨hl, hi⟩
    · cases hi
  have hO2 : ∀ i o b, (if i < n then g.Ow i o else none) = some b → i < n ∧ g.Ow i o = some b := by
    intro i o b hi
    split at hi
    · rename_i hl; exact ⟨hl, hi⟩
    · cases hi
  have hS2 : ∀ t b, (if t ∈ ts then S t else none) = some b → t ∈ ts ∧ S t = some b := by
    intro i b hi
    split at hi
    · rename_i hl; exact ⟨hl, hi⟩
    · cases hi
  refine ⟨⟨fun i => if i < n then g.β i else none, g.M, fun i o => if i < n then g.Ow i o else none⟩, fun t => if t ∈ ts then S t else none, ?_⟩
  constructor
  · constructor
    · exact h.h.mem
    · intro i b hi
      have h1 := hβ2 i b hi
      have := h.h.dom i b h1.2
      simp only [List.length_take]; omega
    · intro i bx b hi hb'
      obtain ⟨hl, hb'⟩ := hβ2 i b hb'
      rw [List.getElem?_take, if_pos hl] at hi
      obtain ⟨arr, T, h1, h2, h3⟩ := h.h.box i bx b hi hb'
      refine ⟨arr, T, h1, h2, fun j x hj => ?_⟩
      obtain ⟨v, h4, h5, h6⟩ := h3 j x hj
      refine ⟨v, h4, ?_, ?_⟩
      · exact RepC.mono' (g := g) (g' := ⟨fun i => if i < n then g.β i else none, g.M, fun i o => if i < n then g.Ow i o else none⟩) n (fun i b hi hb => by show (if i < n then g.β i else none) = some b; rw [if_pos hi]; exact hb) (fun _ _ _ h => h) (by have := h.h.bnd i bx hi x (List.mem_of_getElem? hj); omega) h5
      · show OwnC w g.M (if i < n then g.Ow i j else none) x v
        rw [if_pos hl]; exact h6
    · intro i bx b hi hb' hlv o
      obtain ⟨hl, hb'⟩ := hβ2 i b hb'
      rw [List.getElem?_take, if_pos hl] at hi
      exact h.h.liv i bx b hi hb' hlv o
    · intro i bx hi x hx
      rw [List.getElem?_take] at hi
      split at hi
      · exact h.h.bnd i bx hi x hx
      · cases hi
    · intro i j b hi hj; exact h.h.inj i j b (hβ2 i b hi).2 (hβ2 j b hj).2
    · intro i o j p b hi hj; exact h.h.owinj i o j p b (hO2 _ _ _ hi).2 (hO2 _ _ _ hj).2
    · intro i o j b hi hj; exact h.h.owβ i o j b (hO2 _ _ _ hi).2 (hβ2 j b hj).2
    · intro i o b hi; exact h.h.owlt i o b (hO2 _ _ _ hi).2
  · constructor
    · intro t
      show RepV _ (keepE s.env ts t) _
      by_cases ht : t ∈ ts
      · rw [keepE_get.1 ht]
        exact RepV.cut (g := g) (h.e.rep t) (Nat.le_trans (bdsE_get ht) hb) (noTup_get hnt ht)
      · rw [keepE_get.2 ht]; trivial
    · intro t
      show OwnV w g.M (if t ∈ ts then S t else none) (keepE s.env ts t) _
      by_cases ht : t ∈ ts
      · rw [keepE_get.1 ht, if_pos ht]; exact h.e.own t
      · rw [keepE_get.2 ht]; exact OwnV.of_noOwn trivial
    · intro t u b ht hu; exact h.e.inj t u b (hS2 t b ht).2 (hS2 u b hu).2
    · intro t i b ht hi; exact h.e.β t i b (hS2 t b ht).2 (hβ2 i b hi).2
    · intro t i o b ht hi; exact h.e.Ow t i o b (hS2 t b ht).2 (hO2 i o b hi).2
    · intro t b ht; exact h.e.lt t b (hS2 t b ht).2
  · exact h.sz
  · exact h.defs
  · exact h.same
  · have := h.n0
    show fx.n0 ≤ (s.H.take n).length
    rw [List.length_take]; omega
  · exact h.M
  · exact h.keep
  · intro i hi
    show (if i < n then g.β i else none) = _
    rw [if_pos (by omega)]; exact h.βold i hi
  · intro i b hi; exact h.βT i b (hβ2 i b hi).2
  · intro i o b hi; exact h.OwT i o b (hO2 i o b hi).2
  · intro t b ht; exact h.ST t b (hS2 t b ht).2
end
end Go.Ab
