/-
  The operations that change memory, or who owns what: one lemma each on how the relation between the abstract machine and the model goes on.
  Conditions: none; lemmas.
-/
import Derived.Test.YtnnjmbblpmghfaaGreatD
set_option linter.unusedSimpArgs false
set_option linter.unusedVariables false
namespace Go.Ab
section
variable {P : Program} {fx : Fx} {g : Gh} {S : Nat → Option Nat} {s : St} {a : Act} {w : World}

theorem HInv.Mlt {H : Heap} (h : HInv g H w) {b o : Nat} {v : Value} (hm : g.M b o = some v) : b < w.heap.size := World.block_lt_of_cell? w _ (h.mem b o v hm)

/-- The world goes on, and what is of any concern in it stays. -/
theorem HInv.world {H : Heap} (h : HInv g H w) {w' : World} (hs : w.heap.size ≤ w'.heap.size) (hb : ∀ b, b < w.heap.size → ((∃ o v, g.M b o = some v) ∨ (∃ i, g.β i = some b) ∨ (∃ i o, g.Ow i o = some b)) → w'.heap[b]? = w.heap[b]?) : HInv g H w' where
  mem b o v hm := by
    rw [World.cell?_of_block (a := ⟨b, o, none⟩) (hb b (h.Mlt hm) (.inl ⟨o, v, hm⟩))]
    exact h.mem b o v hm
  dom := h.dom
  box i bx b hi hβ := by
    obtain ⟨arr, T, h1, h2, h3⟩ := h.box i bx b hi hβ
    refine ⟨arr, T, by rw [hb b (h.βlt hβ) (.inr (.inl ⟨i, hβ⟩))]; exact h1, h2, fun j c hj => ?_⟩
    obtain ⟨v, h4, h5, h6⟩ := h3 j c hj
    exact ⟨v, h4, h5, h6.congr fun b hw => ⟨hb b (h.owlt _ _ _ hw) (.inr (.inr ⟨i, j, hw⟩)), fun _ => rfl⟩⟩
  liv := h.liv
  bnd := h.bnd
  inj := h.inj
  owinj := h.owinj
  owβ := h.owβ
  owlt i o b hw := Nat.lt_of_lt_of_le (h.owlt i o b hw) hs

theorem SimG.world (h : SimG fx g S s a w) {w' : World} (hs : Same w w') (hb : ∀ b, b < w.heap.size → w'.heap[b]? = w.heap[b]?) : SimG fx g S s a w' where
  h := h.h.world hs.size fun b hl _ => hb b hl
  e := ⟨h.e.rep, fun t => (h.e.own t).congr fun b hS => ⟨hb b (h.e.lt t b hS), fun _ => rfl⟩, h.e.inj, h.e.β, h.e.Ow, fun t b hS => Nat.lt_of_lt_of_le (h.e.lt t b hS) hs.size⟩
  sz := h.sz
  defs := h.defs
  same := h.same.trans hs
  n0 := h.n0
  M := h.M
  keep b hl hT := by
    have := h.keep b hl hT
    exact ⟨by rw [hb b (Nat.lt_of_lt_of_le hl h.same.size)]; exact this.1, this.2⟩
  βold := h.βold
  βT := h.βT
  OwT := h.OwT
  ST := h.ST

theorem same_alloc (w : World) (o : Obj) : Same w (w.alloc o) := ⟨rfl, rfl, rfl, by simp⟩
theorem SimG.alloc (h : SimG fx g S s a w) (o : Obj) : SimG fx g S s a (w.alloc o) := h.world (same_alloc w o) fun b hl => heap_alloc_old w o b hl

theorem bdL_le {n : Nat} {vs : List Value} (hd : ∀ i b, g.β i = some b → i < n) : ∀ {l : List (Nat × Nat)} {vs : List Value}, All2 (PtrRep g) l vs → bdL l ≤ n
  | [], _, _ => by simp [bdL]
  | x :: xs, _, .cons hx h => by
    obtain ⟨b, hb, _⟩ := hx
    have := hd _ _ hb
    have := bdL_le hd (vs := vs) h
    simp only [bdL]; omega
theorem RepC.bd_le {n : Nat} (hd : ∀ i b, g.β i = some b → i < n) {x : C} {v : Value} (r : RepC g x v) : bd x ≤ n := by
  cases x with
  | ptr id off => obtain ⟨b, hb, _⟩ := r; simp only [bd]; exact hd _ _ hb
  | view id off len sz => obtain ⟨b, cap, hb, _⟩ := r; simp only [bd]; exact hd _ _ hb
  | fn f fs cs => obtain ⟨vf, vc, _, h1, h2⟩ := r; simp only [bd]; exact Nat.max_le.2 ⟨bdL_le (vs := []) hd h1, bdL_le (vs := []) hd h2⟩
  | _ => simp [bd]

/-- A new box: a block that nobody knows yet. -/
theorem SimG.newbox (h : SimG fx g S s a w) {b : Nat} {arr : Array Value} {T : TypeId} (hw : w.heap[b]? = some (.cells arr T (0, 0))) (h0 : fx.w0.heap.size ≤ b) (hM : ∀ o, g.M b o = none) (hβ : ∀ i, g.β i ≠ some b) (hO : ∀ i o, g.Ow i o ≠ some b) (hS : ∀ t, S t ≠ some b)
    {xs : List C} (hr : All2 (RepN g) xs (arr.toList.take xs.length)) : ∃ g', g.le g' ∧ g'.β s.H.length = some b ∧ SimG fx g' S ⟨s.env, s.H ++ [⟨true, xs⟩]⟩ a w := by
  let g' : Gh := ⟨fun i => if i = s.H.length then some b else g.β i, g.M, g.Ow⟩
  have hn : g.β s.H.length = none := by
    cases hx : g.β s.H.length with
    | none => rfl
    | some c => exact absurd (h.h.dom _ _ hx) (Nat.lt_irrefl _)
  have hle : g.le g' := ⟨fun i c hc => by
    show (if i = s.H.length then some b else g.β i) = some c
    rw [if_neg (fun e => by subst e; rw [hn] at hc; cases hc)]; exact hc, fun _ _ _ h => h⟩
  have hβ' : ∀ i c, g'.β i = some c → (i = s.H.length ∧ c = b) ∨ (i < s.H.length ∧ g.β i = some c) := by
    intro i c hc
    have hc : (if i = s.H.length then some b else g.β i) = some c := hc
    by_cases e : i = s.H.length
    · rw [if_pos e] at hc; cases hc; exact .inl ⟨e, rfl⟩
    · rw [if_neg e] at hc; exact .inr ⟨h.h.dom i c hc, hc⟩
  have hblt : b < w.heap.size := (Array.getElem?_eq_some_iff.1 hw).1
  refine ⟨g', hle, by show (if s.H.length = s.H.length then some b else _) = some b; simp, ?_⟩
  constructor
  · constructor
    · exact h.h.mem
    · intro i c hc
      rcases hβ' i c hc with ⟨rfl, _⟩ | ⟨hl, _⟩
      · simp
      · simp; omega
    · intro i bx c hi hc
      rcases hβ' i c hc with ⟨rfl, rfl⟩ | ⟨hl, hc⟩
      · simp at hi; subst hi
        refine ⟨arr, T, hw, ?_, ?_⟩
        · have := hr.len; simp at this; show xs.length ≤ arr.size; omega
        · intro j x hj
          obtain ⟨v, hv, hx⟩ := hr.get j x hj
          rw [List.getElem?_take] at hv
          split at hv
          · exact ⟨v, by simpa using hv, (RepN.mono hle hx).1, by cases x <;> first | trivial | exact hx.2.elim⟩
          · cases hv
      · rw [List.getElem?_append_left hl] at hi
        obtain ⟨arr', T', h1, h2, h3⟩ := h.h.box i bx c hi hc
        refine ⟨arr', T', h1, h2, fun j x hj => ?_⟩
        obtain ⟨v, h4, h5, h6⟩ := h3 j x hj
        exact ⟨v, h4, RepC.mono hle h5, h6⟩
    · intro i bx c hi hc hlv
      rcases hβ' i c hc with ⟨rfl, rfl⟩ | ⟨hl, hc⟩
      · exact hM
      · rw [List.getElem?_append_left hl] at hi
        exact h.h.liv i bx c hi hc hlv
    · intro i bx hi x hx
      by_cases hl : i < s.H.length
      · rw [List.getElem?_append_left hl] at hi; exact h.h.bnd i bx hi x hx
      · have : i = s.H.length := by
          have := (List.getElem?_eq_some_iff.1 hi).1; simp at this; omega
        subst this
        simp at hi; subst hi
        obtain ⟨j, hj⟩ := List.getElem?_of_mem hx
        obtain ⟨v, _, hxr⟩ := hr.get j x hj
        have := hxr.1.bd_le h.h.dom
        omega
    · intro i j c hi hj
      rcases hβ' i c hi with ⟨e1, e2⟩ | ⟨hl, hi'⟩
      · rcases hβ' j c hj with ⟨e3, _⟩ | ⟨_, hj'⟩
        · rw [e1, e3]
        · exact absurd (e2 ▸ hj') (hβ j)
      · rcases hβ' j c hj with ⟨e3, e4⟩ | ⟨_, hj'⟩
        · exact absurd (e4 ▸ hi') (hβ i)
        · exact h.h.inj i j c hi' hj'
    · exact h.h.owinj
    · intro i o j c hi hj
      rcases hβ' j c hj with ⟨rfl, rfl⟩ | ⟨_, hj⟩
      · exact hO _ _ hi
      · exact h.h.owβ i o j c hi hj
    · exact h.h.owlt
  · refine ⟨fun t => (h.e.rep t).mono hle, h.e.own, h.e.inj, fun t i c ht hc => ?_, h.e.Ow, h.e.lt⟩
    rcases hβ' i c hc with ⟨rfl, rfl⟩ | ⟨_, hc⟩
    · exact hS t ht
    · exact h.e.β t i c ht hc
  · exact h.sz
  · exact h.defs
  · exact h.same
  · have := h.n0; simp; omega
  · exact h.M
  · exact h.keep
  · intro i hi
    have := h.n0
    show (if i = s.H.length then some b else g.β i) = _
    rw [if_neg (by omega)]; exact h.βold i hi
  · intro i c hc
    rcases hβ' i c hc with ⟨rfl, rfl⟩ | ⟨_, hc⟩
    · exact .inr h0
    · exact h.βT i c hc
  · exact h.OwT
  · exact h.ST

/-- More memory that stays: cells of blocks that no box and no list that grows has. -/
theorem SimG.growM (h : SimG fx g S s a w) {M' : Mem} (hM : ∀ b o v, g.M b o = some v → M' b o = some v) (hmem : ∀ b o v, M' b o = some v → w.cell? ⟨b, o, none⟩ = some v)
    (hnew : ∀ b, (∃ o, M' b o ≠ g.M b o) → (∀ i, g.β i ≠ some b) ∧ (∀ i o, g.Ow i o ≠ some b) ∧ (∀ t, S t ≠ some b) ∧ (fx.T b ∨ fx.w0.heap.size ≤ b)) :
    g.le { g with M := M' } ∧ SimG fx { g with M := M' } S s a w := by
  have hle : g.le { g with M := M' } := ⟨fun _ _ h => h, hM⟩
  have heq : ∀ b, (∃ i, g.β i = some b) ∨ (∃ i o, g.Ow i o = some b) ∨ (∃ t, S t = some b) → ∀ o, M' b o = g.M b o := by
    intro b hb o
    apply Classical.byContradiction
    intro hne
    obtain ⟨h1, h2, h3, _⟩ := hnew b ⟨o, hne⟩
    rcases hb with ⟨i, hi⟩ | ⟨i, o, hi⟩ | ⟨t, ht⟩
    · exact h1 i hi
    · exact h2 i o hi
    · exact h3 t ht
  refine ⟨hle, ?_⟩
  constructor
  · constructor
    · exact hmem
    · exact h.h.dom
    · intro i bx c hi hc
      obtain ⟨arr', T', h1, h2, h3⟩ := h.h.box i bx c hi hc
      refine ⟨arr', T', h1, h2, fun j x hj => ?_⟩
      obtain ⟨v, h4, h5, h6⟩ := h3 j x hj
      exact ⟨v, h4, RepC.mono hle h5, h6.congr fun b hw => ⟨rfl, heq b (.inr (.inl ⟨i, j, hw⟩))⟩⟩
    · intro i bx c hi hc hlv o
      show M' c o = none
      rw [heq c (.inl ⟨i, hc⟩) o]; exact h.h.liv i bx c hi hc hlv o
    · exact h.h.bnd
    · exact h.h.inj
    · exact h.h.owinj
    · exact h.h.owβ
    · exact h.h.owlt
  · exact ⟨fun t => (h.e.rep t).mono hle, fun t => (h.e.own t).congr fun b hS => ⟨rfl, heq b (.inr (.inr ⟨t, hS⟩))⟩, h.e.inj, h.e.β, h.e.Ow, h.e.lt⟩
  · exact h.sz
  · exact h.defs
  · exact h.same
  · exact h.n0
  · exact fun b o v hv => hM _ _ _ (h.M b o v hv)
  · intro b hl hT
    refine ⟨(h.keep b hl hT).1, fun o => ?_⟩
    have : M' b o = g.M b o := by
      apply Classical.byContradiction
      intro hne
      rcases (hnew b ⟨o, hne⟩).2.2.2 with h1 | h1
      · exact hT h1
      · omega
    show M' b o = _
    rw [this]; exact (h.keep b hl hT).2 o
  · exact h.βold
  · exact h.βT
  · exact h.OwT
  · exact h.ST

/-- A slot is written; 'b?' : the row that the value owns. -/
theorem SimG.putO (h : SimG fx g S s a w) {d : Nat} (hd : d < fx.nt) {x : V} {v : Value} (hr : RepV g x v) (b? : Option Nat) (ho : OwnV w g.M b? x v)
    (hb : ∀ b, b? = some b → (∀ t, t ≠ d → S t ≠ some b) ∧ (∀ i, g.β i ≠ some b) ∧ (∀ i o, g.Ow i o ≠ some b) ∧ b < w.heap.size ∧ (fx.T b ∨ fx.w0.heap.size ≤ b)) :
    SimG fx g (fun t => if t = d then b? else S t) ⟨upd s.env d x, s.H⟩ (a.put (some d) v) w where
  h := h.h
  e := by
    have hd' : d < a.tmps.size := by rw [h.sz]; exact hd
    constructor
    · intro t
      rw [getD_put hd']
      by_cases e : t = d
      · simp only [upd, if_pos e]; exact hr
      · simp only [upd, if_neg e]; exact h.e.rep t
    · intro t
      rw [getD_put hd']
      by_cases e : t = d
      · simp only [upd, if_pos e]; exact ho
      · simp only [upd, if_neg e]; exact h.e.own t
    · intro t u b ht hu
      by_cases e : t = d
      · by_cases e' : u = d
        · rw [e, e']
        · simp only [if_pos e] at ht; simp only [if_neg e'] at hu; exact absurd hu ((hb b ht).1 u e')
      · by_cases e' : u = d
        · simp only [if_neg e] at ht; simp only [if_pos e'] at hu; exact absurd ht ((hb b hu).1 t e)
        · simp only [if_neg e] at ht; simp only [if_neg e'] at hu; exact h.e.inj t u b ht hu
    · intro t i b ht hi
      by_cases e : t = d
      · simp only [if_pos e] at ht; exact (hb b ht).2.1 i hi
      · simp only [if_neg e] at ht; exact h.e.β t i b ht hi
    · intro t i o b ht hi
      by_cases e : t = d
      · simp only [if_pos e] at ht; exact (hb b ht).2.2.1 i o hi
      · simp only [if_neg e] at ht; exact h.e.Ow t i o b ht hi
    · intro t b ht
      by_cases e : t = d
      · simp only [if_pos e] at ht; exact (hb b ht).2.2.2.1
      · simp only [if_neg e] at ht; exact h.e.lt t b ht
  sz := by rw [size_put]; exact h.sz
  defs := by rw [defers_put]; exact h.defs
  same := h.same
  n0 := h.n0
  M := h.M
  keep := h.keep
  βold := h.βold
  βT := h.βT
  OwT := h.OwT
  ST := by
    intro t b ht
    by_cases e : t = d
    · simp only [if_pos e] at ht; exact (hb b ht).2.2.2.2
    · simp only [if_neg e] at ht; exact h.ST t b ht

/-- A slot gives up what it owns. -/
theorem SimG.drop (h : SimG fx g S s a w) (t : Nat) : SimG fx g (fun u => if u = t then none else S u) ⟨upd s.env t (cl (s.env t)), s.H⟩ a w where
  h := h.h
  e := by
    constructor
    · intro u
      by_cases e : u = t
      · simp only [upd, if_pos e]; rw [e]; exact cl_rep (h.e.rep t)
      · simp only [upd, if_neg e]; exact h.e.rep u
    · intro u
      by_cases e : u = t
      · simp only [upd, if_pos e]; exact OwnV.of_noOwn (noOwn_cl _)
      · simp only [upd, if_neg e]; exact h.e.own u
    · intro u v b hu hv
      by_cases e : u = t
      · simp [e] at hu
      · by_cases e' : v = t
        · simp [e'] at hv
        · simp only [if_neg e] at hu; simp only [if_neg e'] at hv; exact h.e.inj u v b hu hv
    · intro u i b hu hi
      by_cases e : u = t
      · simp [e] at hu
      · simp only [if_neg e] at hu; exact h.e.β u i b hu hi
    · intro u i o b hu hi
      by_cases e : u = t
      · simp [e] at hu
      · simp only [if_neg e] at hu; exact h.e.Ow u i o b hu hi
    · intro u b hu
      by_cases e : u = t
      · simp [e] at hu
      · simp only [if_neg e] at hu; exact h.e.lt u b hu
  sz := h.sz
  defs := h.defs
  same := h.same
  n0 := h.n0
  M := h.M
  keep := h.keep
  βold := h.βold
  βT := h.βT
  OwT := h.OwT
  ST := by
    intro u b hu
    by_cases e : u = t
    · simp [e] at hu
    · simp only [if_neg e] at hu; exact h.ST u b hu
end
end Go.Ab
